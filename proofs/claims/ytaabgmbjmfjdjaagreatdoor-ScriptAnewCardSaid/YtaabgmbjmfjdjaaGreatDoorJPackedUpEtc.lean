import Derived.Test.YtaabgmbjmfjdjaaGreatDoorJToldEtc
import Derived.Laws.AppendOwnNone
import Derived.Maps.AppendAt
import Derived.Laws.NewBlocks
import Derived.Lib.SliceRun
import Derived.Test.YtaabgmbjmfjdjaaGreatDoorJPlainly
import Derived.Test.YtaabgmbjmfjdjaaGreatDoorJRowedEtc
import Derived.Test.YtaabgmbjmfjdjaaGreatDoorJSummed
import Derived.Test.YtaabgmbjmfjdjaaGreatDoorJErrors
namespace Go.Proofs.YtaabgmbjmfjdjaaGreatDoor
open Go Go.RowKit
set_option maxHeartbeats 4000000
set_option maxRecDepth 100000
def FArg (w:World) (v:Value) (l:List FileB):Prop:=FRow w v l∧∀n c,v=.slice none n c→n=0∧c=0
theorem FArg.ext {w w':World} {v:Value} {l:List FileB} (h:FArg w v l) (hb:Below w.heap.size w w'):FArg w' v l:=⟨h.1.ext hb,h.2⟩
theorem Tryz.infoFile:(Tryz.prog.info? 170).map (fun i=>(i.zero,i.size,i.bytes))=some (some (.agg #[.string ⟨#[]⟩,.bool false,.string ⟨#[]⟩]),3,40):=by kernel_rfl
def FOwn (w:World) (base:Nat) (v:Value) (l:List FileB):Prop:=w.ownsRow base 170 3 v l.length (l.flatMap encFile)
theorem FOwn.nil (w:World) (base:Nat):FOwn w base (.slice none 0 0) []:=World.ownsRow_nil _ _ _ _
theorem FOwn.arg {w:World} {base:Nat} {v:Value} {l:List FileB} (h:FOwn w base v l):FArg w v l:=by
 rcases Row.of_owns (enc:=encFile) (fun _=>rfl) h with ⟨rfl,rfl⟩|⟨g,off,cap,rfl,hn,hc,hlt,hcell⟩
 ·exact ⟨⟨none,0,rfl,Nat.le_refl _,Nat.zero_le _,fun i hi=>absurd hi (Nat.not_lt_zero _)⟩,fun n c e=>by injection e with _ e1 e2;exact ⟨e1.symm,e2.symm⟩⟩
 ·refine ⟨⟨_,cap,rfl,hn,hc,fun i hi=>⟨g,off,rfl,hlt,fun k hk=>?_⟩⟩,fun n c e=>by injection e with e0;cases e0⟩;exact ⟨hcell k hk 0 (by decide),hcell k hk 1 (by decide),hcell k hk 2 (by decide)⟩
theorem FOwn.low {w:World} {base B:Nat} {v:Value} {l:List FileB} (h:FOwn w base v l) (hB:B≤base):FOwn w B v l:=by
 refine ⟨h.1,?_⟩;rcases h.2 with h0|⟨g,cap,cur,hv,hb,hr⟩
 ·exact .inl h0
 ·exact .inr ⟨g,cap,cur,hv,Nat.le_trans hB hb,hr⟩
theorem FOwn.shape {w:World} {base:Nat} {v:Value} {l:List FileB} (h:FOwn w base v l):∃ao cap,v=.slice ao l.length cap:=by
 obtain ⟨⟨ao,cap,h1,_⟩,_⟩:=h.arg;exact ⟨ao,cap,h1⟩
theorem FOwn.ext {w w':World} {base:Nat} {v:Value} {l:List FileB} (h:FOwn w base v l) (hb:Below w.heap.size w w'):FOwn w' base v l:=owns_below h hb
def LFPost (l:List FileB) (w:World) (e:Ending) (w':World):Prop:=(∃n:Int,e=.returned (.int .i64 n)∧(n=0∨n=1)∧Hid (n=0→l.length≤31∧∀f∈l,f.path.size≤100∧f.text.size≤4001))∧w=w'
theorem LFPost.one {l:List FileB} {w:World}:LFPost l w (.returned (.int .i64 1)) w:=⟨⟨1,rfl,.inr rfl,fun h=>by cases h⟩,rfl⟩
section
open Go.Lib
theorem cloneFiles_any (v:Value) (l:List FileB) (w:World) (hl:l.length≤10000) (hv:FArg w v l):
  Calls Tryz.prog 167 #[v] w fun e w'=>(∃ov,e=.returned ov∧Hid (FOwn w' w.heap.size ov l))∧Below w.heap.size w w':=by
 obtain ⟨i0,hi0,hz0,hz1,hz2⟩:=info_parts Tryz.infoFile;obtain ⟨⟨ao,cap,rfl,h1,h2,H3⟩,hnil⟩:=hv;have HM:=Lib.hid H3;have hq:∀(W:World) (a:Option Addr) (n c:Nat),(binOp .eql 124 (.slice a n c) (.slice none 0 0)).run Tryz.prog W=.ok (.bool a.isNone) W:=fun W a n c=>Go.Lib.run_eql_slice_nil W _ _ a n c 0 0 Tryz.underlying124
 clear H3
 cases ao with
 |none=>
  obtain ⟨h0,rfl⟩:=hnil _ _ rfl;have hl0:l=[]:=List.eq_nil_of_length_eq_zero h0;subst hl0;clear HM hnil;simp only [List.length_nil];go_enter Tryz.func167,Tryz.ntmps167;go_wp2_with fail;go_ret;exact ⟨⟨_,rfl,FOwn.nil _ _⟩,Below.refl _ _⟩
 |some ad=>
  clear hnil;go_enter Tryz.func167,Tryz.ntmps167;go_wp2_with (at_builtin;refine wpList_append_own _ rfl _ _ 124 rfl w.heap.size 170 i0 (.agg #[.string ⟨#[]⟩,.bool false,.string ⟨#[]⟩]) 3 40 Tryz.underlying124 hi0 hz0 hz1 hz2 rfl (by decide) _ 0 _ rfl (World.ownsRow_made w #[] 0 (Nat.le_refl _) (Nat.zero_le _) rfl) ad l.length cap (l.flatMap encFile) rfl (flatMap_len _ 3 (fun _=>rfl) l) ?c1 ?c2 ?c3 ?c4 ?c5 ?_)
  case c1=>
   intro j u hj;have hjl:j<(l.flatMap encFile).length:=(List.getElem?_eq_some_iff.1 hj).1;rw [flatMap_len encFile 3 (fun _=>rfl)] at hjl;have hi:j/3<l.length:=by omega
   obtain ⟨b,off,he,hbl,hcell⟩:=HM.out (j/3) hi;injection he with he
   subst he;obtain ⟨q0,q1,q2⟩:=hcell (j/3) hi;rw [show j=j/3*3+j%3 by omega,flatMap_at encFile 3 (fun _=>rfl) l (j/3) (j%3) hi (by omega)] at hj;have hm:j%3=0∨j%3=1∨j%3=2:=by omega
   rw [Addr.add_lit];refine cell?_alloc_some _ ?_;rcases hm with hm|hm|hm
   ·rw [hm] at hj;have:u=.string l[j/3].path:=by simpa using hj.symm
    rw [this,←q0];congr 2;omega
   ·rw [hm] at hj;have:u=.bool l[j/3].run:=by simpa using hj.symm
    rw [this,←q1];congr 2;omega
   ·rw [hm] at hj;have:u=.string l[j/3].text:=by simpa using hj.symm
    rw [this,←q2];congr 2;omega
  case c2=>
   intro u hu;obtain ⟨f,_,hf⟩:=List.mem_flatMap.1 hu;simp at hf;rcases hf with rfl|rfl|rfl<;>rfl
  case c3=>rw [maxLen_eq];omega
  case c4=>omega
  case c5=>simp
  intro v' w' hown hgrow _;have hb:Below w.heap.size w w':=((Below.refl _ w).alloc (Nat.le_refl _) _).grown hgrow (by simp) (by intro k hk;simp [Value.ownBlock] at hk;omega);have H:Hid (FOwn w' w.heap.size v' l):=by
   show w'.ownsRow _ _ _ _ _ _;simpa using hown
  clear hown hgrow HM;go_wp2_with fail;go_ret;exact ⟨⟨_,rfl,H⟩,hb⟩
end
def modeB (r:Bool):UInt8:=if r then 120 else 102
def packOne (f:FileB):List UInt8:=bl f.path++([32,modeB f.run,32]++(Lib.decDigits f.text.size++(10::(bl f.text++[10]))))
def packL (l:List FileB):List UInt8:=l.flatMap packOne
theorem packOne_len (f:FileB) (hp:f.path.size≤30000) (ht:f.text.size≤100000):(packOne f).length≤132000:=by
 have h1:=decDigits_len f.text.size (by omega);unfold packOne;simp only [List.length_append,List.length_cons,List.length_nil,bl_length];omega
theorem packL_snoc (l:List FileB) (f:FileB):packL (l++[f])=packL l++packOne f:=by simp [packL]
theorem packL_take {l:List FileB} {k:Nat} (h:k<l.length):packL (l.take (k+1))=packL (l.take k)++packOne l[k]:=by
 rw [List.take_add_one,List.getElem?_eq_getElem h];exact packL_snoc _ _
theorem packL_cons (f:FileB) (l:List FileB):packL (f::l)=packOne f++packL l:=by simp [packL]
theorem packL_len:∀(l:List FileB),(∀f∈l,f.path.size≤30000∧f.text.size≤100000)→(packL l).length≤132000*l.length
 | [],_=>Nat.zero_le _
 |f::l,h=>by
  have h1:=packOne_len f (h f (List.mem_cons_self ..)).1 (h f (List.mem_cons_self ..)).2;have h2:=packL_len l (fun g hg=>h g (List.mem_cons_of_mem _ hg));rw [packL_cons,List.length_append,List.length_cons];omega
def KEnv (E:Nat→Addr) (w:World):Prop:=FEnv E w∧PowTab w
theorem KEnv.ext {E:Nat→Addr} {w w':World} (h:KEnv E w) (hb:Below w.heap.size w w'):KEnv E w':=⟨h.1.ext hb,h.2.ext hb⟩
def packT (l:List FileB):List UInt8:=if (treeEr l).code=0 then packL l else []
def PackPost (E:Nat→Addr) (l:List FileB) (w:World) (e:Ending) (w':World):Prop:=
 (∃(t:ByteArray) (ev:Value),e=.returned (.tuple #[.string t,ev])∧Hid (bl t=packT l)∧Hid (IsErr E w' ev (treeEr l)))∧Below w.heap.size w w'
theorem packT_len (l:List FileB) (h:∀f∈l,SmallF f):(packT l).length≤132000*l.length:=by
 unfold packT;split
 ·exact packL_len l h
 ·exact Nat.zero_le _
theorem packs_bl (f:FileB) (t m:ByteArray) (r:Bool) (hr:f.run=r) (hm:bl m=[modeB r]) (ht:bl t=Lib.decDigits f.text.size):
  bl (f.path++{data:=#[32]}++m++{data:=#[32]}++t++{data:=#[10]}++f.text++{data:=#[10]})=packOne f:=by
 simp only [bl_append,hm,ht,packOne,hr];rw [show bl {data:=#[32]}=[32] from rfl,show bl {data:=#[10]}=[10] from rfl];simp
theorem packs_len (acc:List UInt8) (f:FileB) (t m:ByteArray) (k:Nat) (hlen:acc.length≤132000*k) (hts:t.size≤21) (hm:m.size=1) (s1:f.path.size≤30000) (s2:f.text.size≤100000) (hk:k≤10000):
  (Lib.byteCells acc).length+(f.path++{data:=#[32]}++m++{data:=#[32]}++t++{data:=#[10]}++f.text++{data:=#[10]}).size≤140737488355328:=by
 rw [Lib.byteCells_length,←bl_length];simp only [bl_append,List.length_append,bl_length];have e1:(bl {data:=#[32]}).length=1:=rfl;have e2:(bl {data:=#[10]}).length=1:=rfl;rw [bl_length] at e1 e2;omega
theorem packMake_any {E:Nat→Addr} (v:Value) (l:List FileB) (w:World) (hv:FRow w v l) (hl:l.length≤10000) (hS:∀f∈l,SmallF f) (hE:KEnv E w):
  Calls Tryz.prog 74 #[v] w (PackPost E l w):=by
 have C:=Lib.hid (treeCheck_any v l w hv hl hS hE.1);obtain ⟨ao,cap,rfl,h1,h2,H3⟩:=hv;have HM:=Lib.hid H3;have HSM:=Lib.hid hS;have HE:=Lib.hid hE;clear H3 hS hE;go_enter Tryz.func74,Tryz.ntmps74;go_wp2_with fail;refine C.out.mono ?_;clear C;rintro e w1 ⟨⟨ev,rfl,HEV⟩,hb1⟩;by_cases hc:(treeEr l).code=0
 ·have HPT:Hid (packT l=packL l):=by show _=_;unfold packT;rw [if_pos hc]
  have hnil:ev=.nilIface:=by
   have h:=HEV.out
   revert h hc
   generalize treeEr l=er;intro hc h;obtain ⟨c,a⟩:=er;obtain rfl:c=0:=hc;exact h.nil_inv
  subst hnil;clear hc;go_wp2_with fail;have hI:=isB_new w1 w1.heap.size (Nat.le_refl _);have hb0:Below w1.heap.size w1 (w1.alloc (.cells #[.pointer none,.slice none 0 0] 118)):=(Below.refl _ _).alloc (Nat.le_refl _) _;generalize w1.alloc (.cells #[.pointer none,.slice none 0 0] 118)=W at hI hb0⊢;go_loopw [16] (fun i wr=>∃(k:Nat) (acc:List UInt8),k≤l.length∧i=.int .i64 k∧Hid (acc=packL (l.take k))∧acc.length≤132000*k∧IsB w1.heap.size w1.heap.size (Lib.byteCells acc) wr∧Below w1.heap.size w1 wr) (fun i _=>l.length- (intOf i).toNat)
  case atStart=>exact ⟨0,[],Nat.zero_le _,rfl,rfl,Nat.zero_le _,hI,hb0⟩
  case round=>
   obtain ⟨k,acc,hk,rfl,HAC,hlen,hB,hb⟩:=hrel;by_cases hlt:k<l.length
   ·obtain ⟨b,off,rfl,hbl,hcell⟩:=HM.out k hlt;obtain ⟨q0,q1,q2⟩:=hcell k hlt;have hbw:=hb1.trans (hb.mono hb1.size);rw [←hbw.cell (p:=⟨b,off+k*3,none⟩) hbl] at q0;rw [←hbw.cell (p:=⟨b,off+k*3+1,none⟩) hbl] at q1;rw [←hbw.cell (p:=⟨b,off+k*3+2,none⟩) hbl] at q2;have sz:=HSM.out l[k] (List.getElem_mem hlt);have HTK:Hid (acc++packOne l[k]=packL (l.take (k+1))):=by show _=_;rw [packL_take hlt,HAC.out]
    have hpl:(packOne l[k]).length≤132000:=packOne_len _ sz.1 sz.2;clear hcell HAC;obtain ⟨f,hf⟩:∃f,l[k]=f:=⟨_,rfl⟩;rw [hf] at q0 q1 q2 sz HTK hpl;clear hf;obtain ⟨pf,hpf⟩:∃pf,wr.heap.size=pf:=⟨_,rfl⟩;obtain ⟨wa,hwa⟩:∃wa,wr.alloc (.cells #[.string f.path,.bool f.run,.string f.text] 170)=wa:=⟨_,rfl⟩;have hal:Below wr.heap.size wr wa:=by rw [←hwa];exact (Below.refl _ _).alloc (Nat.le_refl _) _
    have hA:wa.heap[pf]? =some (.cells #[.string f.path,.bool f.run,.string f.text] 170 (0,0)):=by rw [←hwa,←hpf];exact heap_alloc_new _ _
    have hba:Below w1.heap.size w1 wa:=hb.trans (hal.mono hb.size);have hBa:IsB w1.heap.size w1.heap.size (Lib.byteCells acc) wa:=isB_below hal hB;have hpfl:pf<wa.heap.size:=(Array.getElem?_eq_some_iff.1 hA).1;have a0:wa.cell? ⟨pf,0,none⟩=some (.string f.path):=by rw [Lib.cell_of_heap hA];rfl
    have a1:wa.cell? ⟨pf,1,none⟩=some (.bool f.run):=by rw [Lib.cell_of_heap hA];rfl
    have a2:wa.cell? ⟨pf,2,none⟩=some (.string f.text):=by rw [Lib.cell_of_heap hA];rfl
    obtain ⟨r,hr⟩:∃r,f.run=r:=⟨_,rfl⟩;rw [hr] at q1 a1 hwa;have HR:=Lib.hid hr;clear hr;have HPF:=Lib.hid hpf;have HWA:=Lib.hid hwa;have HT:=Lib.hid ((HE.out.ext (hb1.trans (hba.mono hb1.size))).2);have hAP:Apart w1.heap.size pf wa:=apart_new hB hal (Nat.le_of_eq hpf) hpfl;have HHA:=Lib.hid hA;have hpw:w1.heap.size≤pf:=by rw [←hpf];exact hb.size
    clear hal hA hpf hwa hb hB hbw;have sz2:=sz.2;have sz1:=sz.1;have hkk:k≤10000:=by omega
    clear sz
    cases r
    all_goals
     go_wp2_with fail;rw [HWA.out,HPF.out];have b0:wa.drew.cell? ⟨pf,0,none⟩=some (.string f.path):=a0;have b2:wa.drew.cell? ⟨pf,2,none⟩=some (.string f.text):=a2;have hBd:IsB w1.heap.size w1.heap.size (Lib.byteCells acc) wa.drew:=hBa;have hAd:Apart w1.heap.size pf wa.drew:=hAP;have hTd:PowTab wa.drew:=HT.out;have n1:¬9223372036854775807<f.path.size+1:=by omega
     have n2:¬9223372036854775807<f.path.size+1+1:=by omega
     have n3:¬9223372036854775807<f.path.size+1+1+1:=by omega
     go_region_held3 (fun W:World=>W.cell? ⟨pf,0,none⟩=some (.string f.path)∧W.cell? ⟨pf,2,none⟩=some (.string f.text)) (first|exact ⟨x0,x2⟩|exact ⟨y0,y2⟩|exact ⟨b0,b2⟩)
      (first
       |(go_at_call 79;refine (itoa_any f.text.size (by omega) _ hTd).mono ?_;rintro e w2 ⟨t,rfl,HTX,hts,hb2⟩;have n4:¬9223372036854775807<f.path.size+1+1+1+t.size:=(by omega);have n5:¬9223372036854775807<f.path.size+1+1+1+t.size+1:=(by omega);have n6:¬9223372036854775807<f.path.size+1+1+1+t.size+1+f.text.size:=(by omega);have n7:¬9223372036854775807<f.path.size+1+1+1+t.size+1+f.text.size+1:=(by omega);have y0:=(hb2.cell (p:=⟨pf,0,none⟩) hpfl).trans b0;have y2:=(hb2.cell (p:=⟨pf,2,none⟩) hpfl).trans b2)
       |(go_at_call 70;refine (writeString_keep _ _ _ _ _ (isB_below hb2 hBd) (packs_len acc f t _ k hlen hts rfl sz1 sz2 hkk) (Nat.le_trans hba.size hb2.size) pf (hAd.ext hBd hb2)).mono ?_;rintro e w3 ⟨rfl,hB3,hb3,hk3⟩;have x0:=(Lib.cell_of_heap (hk3.trans ((hb2.block pf hpfl).trans HHA.out)) 0);have x2:=(Lib.cell_of_heap (hk3.trans ((hb2.block pf hpfl).trans HHA.out)) 2)))
     clear n1 n2 n3 n4 n5 n6 n7 x0 x2 y0 y2 hTd
     try clear hHeld
     rw [strCells_bl,packs_bl f t _ _ HR.out rfl HTX.out,←byteCells_append] at hB3;have hbf:Below w1.heap.size w1 w3:=(hba.trans (below_drewN _ _ 1)).trans ((hb2.mono hba.size).trans hb3);have hlen2:(acc++packOne f).length≤132000*(k+1):=by rw [List.length_append];omega
     have HB3:=Lib.hid hB3;have HBF:=Lib.hid hbf;have HL2:=Lib.hid hlen2;clear hB3 hbf hlen2 hb2 hb3 hk3 HTX b0 b2 hBd hAd;go_wp2_with fail;go_roundw
     case rel=>exact ⟨k+1,acc++packOne f,by omega,by go_num,HTK,HL2.out,.inr HB3.out,HBF.out⟩
     case measure=>simp [intOf];omega
   ·obtain rfl:k=l.length:=by omega
    have HE2:Hid (acc=packL l):=by show _=_;rw [HAC.out,List.take_length]
    clear HAC;go_wp2_with fail;refine (Tryz.Builder_String_any _ _ acc _ hB hb.size).mono ?_;rintro e w' ⟨rfl,hb'⟩;have hfin:Below w.heap.size w w':=hb1.trans ((hb.trans hb').mono hb1.size);have HER:Hid (IsErr E w' .nilIface (treeEr l)):=HEV.out.ext ((hb.trans hb').mono (Nat.le_refl _));clear hb' hB hb;go_wp2_with fail;go_ret2;exact ⟨⟨⟨acc.toArray⟩,_,rfl,by show _=_;rw [HPT.out];exact HE2.out,HER⟩,hfin⟩
 ·have HPT:Hid (packT l=[]):=by show _=_;unfold packT;rw [if_neg hc]
  obtain ⟨t,x,rfl⟩:=HEV.out.some_inv hc;clear hc;go_wp2_with fail;go_ret2;exact ⟨⟨_,_,rfl,by show _=_;rw [HPT.out];rfl,HEV⟩,hb1⟩
def PSumPost (E:Nat→Addr) (l:List FileB) (w:World) (e:Ending) (w':World):Prop:=
 (∃ev:Value,e=.returned (.tuple #[.int .i64 (sumL (packT l):Nat),ev])∧Hid (IsErr E w' ev (treeEr l)))∧Below w.heap.size w w'
theorem packSum_any {E:Nat→Addr} (v:Value) (l:List FileB) (w:World) (hv:FRow w v l) (hl:l.length≤10000) (hS:∀f∈l,SmallF f) (hE:KEnv E w):
  Calls Tryz.prog 81 #[v] w (PSumPost E l w):=by
 have C:=Lib.hid (packMake_any v l w hv hl hS hE);have HL:=packT_len l hS;go_enter Tryz.func81,Tryz.ntmps81;go_wp2_with fail;refine C.out.mono ?_;clear C;rintro e w1 ⟨⟨t,ev,rfl,HT,HR⟩,hb⟩;have ht:t.size≤1320000000:=by rw [←bl_length,HT.out];omega
 go_wp2_with fail;refine (sumOf_any t w1 (by omega)).mono ?_;rintro e w2 ⟨rfl,rfl⟩;go_wp2_with fail;go_ret2;exact ⟨⟨ev,by rw [HT.out];rfl,HR⟩,hb⟩
theorem cutB {l sep:List UInt8} (h:(Lib.cut l sep).2.2=true):l=(Lib.cut l sep).1++(sep++(Lib.cut l sep).2.1):=by
 rcases Lib.index_spec l sep with ⟨h1,_⟩|⟨i,h1,_,h3,_⟩
 ·unfold Lib.cut at h;rw [h1] at h;simp at h
 ·obtain ⟨r,hr⟩:=List.isPrefixOf_iff_prefix.1 h3;have e:Lib.cut l sep=(l.take i,l.drop (i+sep.length),true):=by
   unfold Lib.cut;rw [h1,if_pos (by omega)];simp
  rw [e];show l=l.take i++(sep++l.drop (i+sep.length));have:l.drop (i+sep.length)=r:=by rw [←List.drop_drop,←hr,List.drop_left]
  rw [this,hr,List.take_append_drop]
def mkF (p:List UInt8) (r:Bool) (t:List UInt8):FileB:=⟨⟨p.toArray⟩,r,⟨t.toArray⟩⟩
theorem mkF_bl (a b:ByteArray) (r:Bool):mkF (bl a) r (bl b)=⟨a,r,b⟩:=by
 unfold mkF;rw [show (⟨(bl a).toArray⟩:ByteArray)=a from bl_inj rfl,show (⟨(bl b).toArray⟩:ByteArray)=b from bl_inj rfl]
def headW:List (List UInt8)→Option (List UInt8×Bool×Nat)
 | [p,m,d]=>if m=[102]∨m=[120] then (numOf d 6).map (fun n=>(p,m== [120],n)) else none
 |_=>none
def headL (l:List UInt8):Option (List UInt8×Bool×Nat):=headW (cutL 32 l)
def bodyL (b:List UInt8):Option (List UInt8×Bool×Nat)→Option (FileB×List UInt8)
 |some (p,r,n)=>if b[n]? =some 10 then some (mkF p r (b.take n),b.drop (n+1)) else none
 |none=>none
def pieceL (l:List UInt8):Option (FileB×List UInt8):=if (Lib.cut l [10]).2.2=true then bodyL (Lib.cut l [10]).2.1 (headL (Lib.cut l [10]).1) else none
def piecesL:Nat→List UInt8→List FileB×Bool
 |_,[]=>([],true)
 |0,_::_=>([],false)
 |f+1,c::l=>match pieceL (c::l) with
  |none=>([],false)
  |some p=>(p.1::(piecesL f p.2).1,(piecesL f p.2).2)
def allL (s:List UInt8):List FileB×Bool:=piecesL s.length s
def readEr (s:List UInt8):Er:=if 20000<s.length then ⟨2,none⟩ else if (allL s).2=true then treeEr (allL s).1 else ⟨1,some ((allL s).1.length:Int)⟩
def readT (s:List UInt8):List FileB:=if (readEr s).code=0 then (allL s).1 else []
theorem headW_some {w:List (List UInt8)} {p:List UInt8} {r:Bool} {n:Nat} (h:headW w=some (p,r,n)):w=[p,[modeB r],Lib.decDigits n]∧(Lib.decDigits n).length≤6:=by
 unfold headW at h;split at h
 ·rename_i p' m d;split at h
  ·rename_i hm
   cases hd:numOf d 6 with
   |none=>rw [hd] at h;cases h
   |some n'=>
    rw [hd] at h;simp only [Option.map_some,Option.some.injEq,Prod.mk.injEq] at h;obtain ⟨rfl,hr,rfl⟩:=h;obtain ⟨h1,h2⟩:=numOf_some hd;subst h1;refine ⟨?_,h2⟩;rcases hm with rfl|rfl
    ·obtain rfl:r=false:=by rw [←hr];decide
     rfl
    ·obtain rfl:r=true:=by rw [←hr];decide
     rfl
  ·cases h
 ·cases h
theorem headW_of (p:List UInt8) (r:Bool) (n:Nat) (hn:(Lib.decDigits n).length≤6):headW [p,[modeB r],Lib.decDigits n]=some (p,r,n):=by
 unfold headW;simp only;rw [numOf_dec n 6 hn]
 cases r
 ·rw [if_pos (show [modeB false]=[102]∨_ from Or.inl rfl)];rfl
 ·rw [if_pos (show [modeB true]=[102]∨ [modeB true]=[120] from Or.inr rfl)];rfl
def lineL (p:List UInt8) (r:Bool) (n:Nat):List UInt8:=p++32::([modeB r]++32::Lib.decDigits n)
theorem packOne_line (f:FileB):packOne f=lineL (bl f.path) f.run f.text.size++10::(bl f.text++[10]):=by
 unfold packOne lineL;simp
theorem dig_no {n:Nat} {c:UInt8} (h:c.toNat<48∨57<c.toNat):c∉Lib.decDigits n:=fun hm=>by
 have:=decDigits_isD n c hm;unfold isD at this;omega
theorem headL_line (p:List UInt8) (r:Bool) (n:Nat) (hp:(32:UInt8)∉p) (hn:(Lib.decDigits n).length≤6):headL (lineL p r n)=some (p,r,n):=by
 unfold headL lineL;have hm:(32:UInt8)∉ [modeB r]:=by cases r<;>decide
 rw [cutL_app,cutL_app,cutL_no hp,cutL_no hm,cutL_no (dig_no (.inl (by decide)))];exact headW_of p r n hn
theorem headL_some {l:List UInt8} {p:List UInt8} {r:Bool} {n:Nat} (h:headL l=some (p,r,n)):l=lineL p r n∧(Lib.decDigits n).length≤6:=by
 obtain ⟨h1,h2⟩:=headW_some h;refine ⟨?_,h2⟩;have:=cutL_join 32 l;rw [h1,join_cons,join_cons] at this;rw [←this];unfold lineL;simp
theorem line_nl (p:List UInt8) (r:Bool) (n:Nat) (hp:(10:UInt8)∉p):(10:UInt8)∉lineL p r n:=by
 have hm:(10:UInt8)∉ [modeB r]:=by cases r<;>decide
 have hd:(10:UInt8)∉Lib.decDigits n:=dig_no (.inl (by decide));unfold lineL;simp only [List.mem_append,List.mem_cons,not_or];refine ⟨hp,by decide,by simpa using hm,by decide,hd⟩
def PackOk (f:FileB):Prop:=(32:UInt8)∉bl f.path∧(10:UInt8)∉bl f.path∧(Lib.decDigits f.text.size).length≤6
theorem pieceL_of (f:FileB) (r:List UInt8) (h:PackOk f):pieceL (packOne f++r)=some (f,r):=by
 obtain ⟨h1,h2,h3⟩:=h;have hb:(bl f.text).length=f.text.size:=bl_length _;rw [packOne_line,List.append_assoc,List.cons_append];unfold pieceL;rw [cut_hit (line_nl _ _ _ h2)];simp only [if_true];rw [headL_line _ _ _ h1 h3];unfold bodyL;simp only;rw [←hb,List.append_assoc,List.getElem?_append_right (Nat.le_refl _),Nat.sub_self,if_pos (show ([10]++r)[0]? =some 10 from rfl),List.take_left,mkF_bl];congr 2;rw [←List.drop_drop,List.drop_left];rfl
theorem pieceL_inv {l r:List UInt8} {f:FileB} (h:pieceL l=some (f,r)):l=packOne f++r∧(Lib.decDigits f.text.size).length≤6:=by
 unfold pieceL at h;split at h
 ·rename_i hc;have he:=cutB hc
  cases hh:headL (Lib.cut l [10]).1 with
  |none=>rw [hh] at h;cases h
  |some q=>
   obtain ⟨p,m,n⟩:=q;rw [hh] at h;obtain ⟨h1,h2⟩:=headL_some hh;unfold bodyL at h;simp only at h;split at h
   ·rename_i hx;injection h with h
    injection h with hf hr
    generalize (Lib.cut l [10]).2.1=b at*;have hlt:n<b.length:=(List.getElem?_eq_some_iff.1 hx).1;have hget:b[n]=10:=(List.getElem?_eq_some_iff.1 hx).2;have hts:f.text.size=n:=by
     rw [←hf,←bl_length];show (bl ⟨(b.take n).toArray⟩).length=n;rw [bl_mk,List.length_take];omega
    refine ⟨?_,by rw [hts];exact h2⟩;rw [packOne_line,hts];have e1:bl f.path=p:=by rw [←hf];rfl
    have e2:f.run=m:=by rw [←hf];rfl
    have e3:bl f.text=b.take n:=by rw [←hf];rfl
    rw [e1,e2,e3,←hr,he,h1,List.append_assoc];congr 1;show 10::_=10::_;congr 1
    conv=>lhs;rw [←List.take_append_drop n b]
    rw [List.drop_eq_getElem_cons hlt,hget];show List.take n b++_=(List.take n b++[10])++_;rw [List.append_assoc];rfl
   ·cases h
 ·cases h
theorem packOne_pos (f:FileB):0<(packOne f).length:=by unfold packOne;simp only [List.length_append,List.length_cons];omega
theorem pieceL_lt {l r:List UInt8} {f:FileB} (h:pieceL l=some (f,r)):r.length<l.length:=by
 have:=(pieceL_inv h).1;have h2:=packOne_pos f;rw [this,List.length_append];omega
theorem piecesL_nil (m:Nat):piecesL m []=([],true):=by cases m<;>rfl
theorem piecesL_some {m:Nat} {l r:List UInt8} {f:FileB} (h:pieceL l=some (f,r)) (hm:l.length≤m):∃m',r.length≤m'∧piecesL m l=(f::(piecesL m' r).1,(piecesL m' r).2):=by
 have hlt:=pieceL_lt h
 cases l with
 |nil=>simp at hlt
 |cons c l=>
  cases m with
  |zero=>simp at hm
  |succ m=>
   refine ⟨m,by omega,?_⟩;show (match pieceL (c::l) with|none=>_|some p=>_)=_;rw [h]
theorem piecesL_none {m:Nat} {l:List UInt8} (h:pieceL l=none) (hl:l≠[]):piecesL m l=([],false):=by
 cases l with
 |nil=>exact absurd rfl hl
 |cons c l=>
  cases m with
  |zero=>rfl
  |succ m=>
   show (match pieceL (c::l) with|none=>_|some p=>_)=_;rw [h]
theorem piecesL_pack:∀(l:List FileB) (m:Nat),(∀f∈l,PackOk f)→(packL l).length≤m→piecesL m (packL l)=(l,true)
 | [],m,_,_=>piecesL_nil m
 |f::l,m,h,hm=>by
  rw [packL_cons] at hm⊢;obtain ⟨m',h1,h2⟩:=piecesL_some (pieceL_of f (packL l) (h f (List.mem_cons_self ..))) hm;rw [h2,piecesL_pack l m' (fun g hg=>h g (List.mem_cons_of_mem _ hg)) h1]
theorem piecesL_back:∀(m:Nat) (s:List UInt8),s.length≤m→(piecesL m s).2=true→packL (piecesL m s).1=s
 |m,[],_,_=>by rw [piecesL_nil];rfl
 |0,_::_,h,_=>by simp at h
 |m+1,c::s,h,h2=>by
  cases hp:pieceL (c::s) with
  |none=>rw [piecesL_none hp (by simp)] at h2;cases h2
  |some q=>
   obtain ⟨f,r⟩:=q;obtain ⟨m',h3,h4⟩:=piecesL_some hp h;have hlt:=pieceL_lt hp;have e:piecesL (m+1) (c::s)=(f::(piecesL m r).1,(piecesL m r).2):=by
    show (match pieceL (c::s) with|none=>_|some p=>_)=_;rw [hp]
   rw [e] at h2⊢;show packL (f::_)=_;rw [packL_cons,piecesL_back m r (by simp at h hlt;omega) h2];exact ((pieceL_inv hp).1).symm
theorem fileE_zero {ahead:List FileB} {f:FileB} (h:fileE ahead f=0):partsE (bl f.path)=0∧f.text.size≤4000:=by
 unfold fileE at h;split at h
 ·exact absurd h (by assumption)
 ·rename_i h1;split at h
  ·cases h
  ·exact ⟨by simpa using h1,by omega⟩
theorem filesE_none:∀(l:List FileB) (ahead:List FileB) (i:Nat),filesE ahead i l=none→∀f∈l,partsE (bl f.path)=0∧f.text.size≤4000
 | [],_,_,_=>fun f hf=>by cases hf
 |f::l,ahead,i,h=>by
  unfold filesE at h;split at h
  ·rename_i h0;intro g hg;rcases List.mem_cons.1 hg with rfl|hg
   ·exact fileE_zero h0
   ·exact filesE_none l _ _ h g hg
  ·cases h
theorem filesE_some:∀(l:List FileB) (ahead:List FileB) (i:Nat) (p:Nat×Nat),filesE ahead i l=some p→p.2≠0
 | [],_,_,_,h=>by cases h
 |f::l,ahead,i,p,h=>by
  unfold filesE at h;split at h
  ·exact filesE_some l _ _ p h
  ·rename_i h0;injection h with h
   rw [←h];exact h0
theorem treeEr_zero {l:List FileB} (h:(treeEr l).code=0):treeEr l=⟨0,none⟩∧l.length≤30∧allText l≤12000∧∀f∈l,partsE (bl f.path)=0∧f.text.size≤4000:=by
 unfold treeEr at h⊢;split at h
 ·cases h
 ·rename_i h30;rw [if_neg h30]
  cases hf:filesE [] 0 l with
  |some p=>
   rw [hf] at h;exact absurd h (filesE_some l [] 0 p hf)
  |none=>
   rw [hf] at h;simp only at h⊢;split at h
   ·cases h
   ·rename_i ha;rw [if_neg ha];exact ⟨rfl,by omega,by omega,filesE_none l [] 0 hf⟩
theorem mem_join {c d:UInt8} (hc:c≠d):∀(w:List (List UInt8)),c∈[d].intercalate w→∃x∈w,c∈x
 | [],h=>by simp [List.intercalate] at h
 | [x],h=>⟨x,by simp,by simpa [List.intercalate] using h⟩
 |x::y::r,h=>by
  rw [join_cons] at h;rcases List.mem_append.1 h with h|h
  ·exact ⟨x,by simp,h⟩
  ·rcases List.mem_cons.1 h with h|h
   ·exact absurd h hc
   ·obtain ⟨z,hz,hm⟩:=mem_join hc (y::r) h;exact ⟨z,List.mem_cons_of_mem _ hz,hm⟩
theorem join_length (d:UInt8) (m:Nat):∀(w:List (List UInt8)),(∀x∈w,x.length≤m)→([d].intercalate w).length≤(m+1)*w.length
 | [],_=>by simp [List.intercalate]
 | [x],h=>by
  have:=h x (by simp);simp [List.intercalate];omega
 |x::y::r,h=>by
  have h1:=h x (by simp);have h2:=join_length d m (y::r) (fun z hz=>h z (List.mem_cons_of_mem _ hz));rw [join_cons,List.length_append,List.length_cons,List.length_cons,Nat.mul_succ];omega
theorem partB_mem {x:List UInt8} {c:UInt8} (h:partB x=true) (hc:c∈x):okB c=true:=by
 unfold partB at h;simp only [Bool.and_eq_true] at h;exact List.all_eq_true.1 h.2 c hc
theorem partB_len {x:List UInt8} (h:partB x=true):x.length≤12:=by
 unfold partB at h;simp only [Bool.and_eq_true] at h;exact of_decide_eq_true h.1.1.1.2
theorem path_no {s:List UInt8} {c:UInt8} (h:partsE s=0) (hc:okB c=false) (h47:c≠47):c∉s:=fun hm=>by
 rw [←cutL_join 47 s] at hm;obtain ⟨x,hx,hcx⟩:=mem_join h47 _ hm;have:=partB_mem (List.all_eq_true.1 (partsE_ok h).1 x hx) hcx;rw [hc] at this;cases this
theorem path_len {s:List UInt8} (h:partsE s=0):s.length≤78:=by
 have h1:=join_length 47 12 (cutL 47 s) (fun x hx=>partB_len (List.all_eq_true.1 (partsE_ok h).1 x hx));rw [cutL_join] at h1;have:=(partsE_ok h).2;omega
theorem packOk_of {f:FileB} (h:partsE (bl f.path)=0) (h2:f.text.size≤4000):PackOk f:=
 ⟨path_no h (by decide) (by decide),path_no h (by decide) (by decide),Nat.le_trans (decDigits_len_le 3 _ (by omega)) (by omega)⟩
theorem packL_short:∀(l:List FileB),(∀f∈l,partsE (bl f.path)=0∧f.text.size≤4000)→(packL l).length≤90*l.length+allText l
 | [],_=>Nat.zero_le _
 |f::l,h=>by
  obtain ⟨h1,h2⟩:=h f (List.mem_cons_self ..);have h3:=packL_short l (fun g hg=>h g (List.mem_cons_of_mem _ hg));have h4:=path_len h1;have h5:=decDigits_len_le 3 f.text.size (by omega);have e:allText (f::l)=f.text.size+allText l:=by simp [allText]
  rw [packL_cons,List.length_append,List.length_cons,e];unfold packOne;simp only [List.length_append,List.length_cons,List.length_nil,bl_length] at h4⊢;omega
theorem packL_fits {l:List FileB} (h:(treeEr l).code=0):(packL l).length≤20000:=by
 obtain ⟨_,h1,h2,h3⟩:=treeEr_zero h;have:=packL_short l h3;omega
theorem packOks {l:List FileB} (h:(treeEr l).code=0):∀f∈l,PackOk f:=fun f hf=>by
 obtain ⟨_,_,_,h3⟩:=treeEr_zero h;exact packOk_of (h3 f hf).1 (h3 f hf).2
theorem read_pack {l:List FileB} (h:(treeEr l).code=0):readEr (packL l)=⟨0,none⟩∧readT (packL l)=l:=by
 have e:allL (packL l)=(l,true):=piecesL_pack l _ (packOks h) (Nat.le_refl _);have e1:readEr (packL l)=⟨0,none⟩:=by
  unfold readEr;have:=packL_fits h;rw [if_neg (by omega),e];simp only [if_true];exact (treeEr_zero h).1
 refine ⟨e1,?_⟩;unfold readT;rw [e1,e];rfl
theorem read_back {s:List UInt8} (h:(readEr s).code=0):(treeEr (readT s)).code=0∧packL (readT s)=s∧readEr s=⟨0,none⟩:=by
 have e:readT s=(allL s).1:=by unfold readT;rw [if_pos h]
 rw [e];unfold readEr at h⊢;split at h
 ·cases h
 ·rename_i h20;rw [if_neg h20];split at h
  ·rename_i h2;rw [if_pos h2];exact ⟨h,piecesL_back _ s (Nat.le_refl _) h2,(treeEr_zero h).1⟩
  ·cases h
def PStep (s:List UInt8) (acc:List FileB) (rest:List UInt8):Prop:=s=packL acc++rest∧∃m,rest.length≤m∧allL s=(acc++(piecesL m rest).1,(piecesL m rest).2)
theorem PStep.start (s:List UInt8):PStep s [] s:=⟨rfl,s.length,Nat.le_refl _,rfl⟩
theorem PStep.next {s rest r:List UInt8} {acc:List FileB} {f:FileB} (h:PStep s acc rest) (hp:pieceL rest=some (f,r)):PStep s (acc++[f]) r:=by
 obtain ⟨h1,m,h2,h3⟩:=h;obtain ⟨m',h4,h5⟩:=piecesL_some hp h2;refine ⟨?_,m',h4,?_⟩
 ·rw [packL_snoc,List.append_assoc,←(pieceL_inv hp).1];exact h1
 ·rw [h3,h5,List.append_assoc];rfl
theorem PStep.bad {s rest:List UInt8} {acc:List FileB} (h:PStep s acc rest) (hp:pieceL rest=none) (hne:rest≠[]):allL s=(acc,false):=by
 obtain ⟨_,m,_,h3⟩:=h;rw [h3,piecesL_none hp hne,List.append_nil]
theorem PStep.done {s:List UInt8} {acc:List FileB} (h:PStep s acc []):allL s=(acc,true):=by
 obtain ⟨_,m,_,h3⟩:=h;rw [h3,piecesL_nil,List.append_nil]
theorem packOne_five (f:FileB):f.path.size+f.text.size+5≤(packOne f).length:=by
 unfold packOne;simp only [List.length_append,List.length_cons,List.length_nil,bl_length];omega
theorem packL_five:∀(l:List FileB),5*l.length≤(packL l).length∧∀f∈l,f.path.size+f.text.size≤(packL l).length
 | []=>⟨Nat.zero_le _,fun f hf=>by cases hf⟩
 |f::l=>by
  obtain ⟨h1,h2⟩:=packL_five l;have h3:=packOne_five f;rw [packL_cons,List.length_append,List.length_cons];refine ⟨by omega,fun g hg=>?_⟩;rcases List.mem_cons.1 hg with rfl|hg
  ·omega
  ·have:=h2 g hg;omega
theorem PStep.small {s rest:List UInt8} {acc:List FileB} (h:PStep s acc rest) (hs:s.length≤20000):acc.length≤4000∧(∀f∈acc,f.path.size≤30000∧f.text.size≤100000)∧rest.length≤s.length:=by
 obtain ⟨h1,_⟩:=h;have h2:=congrArg List.length h1;rw [List.length_append] at h2;obtain ⟨h3,h4⟩:=packL_five acc;refine ⟨by omega,fun f hf=>?_,by omega⟩;have:=h4 f hf;omega
theorem readEr_big {s:List UInt8} (h:20000<s.length):readEr s=⟨2,none⟩∧readT s=[]:=by
 have e:readEr s=⟨2,none⟩:=by unfold readEr;rw [if_pos h]
 exact ⟨e,by unfold readT;rw [e];rfl⟩
theorem readEr_bad {s:List UInt8} {acc:List FileB} (h:¬20000<s.length) (ha:allL s=(acc,false)):readEr s=⟨1,some (acc.length:Int)⟩∧readT s=[]:=by
 have e:readEr s=⟨1,some (acc.length:Int)⟩:=by unfold readEr;rw [if_neg h,ha];rfl
 exact ⟨e,by unfold readT;rw [e];rfl⟩
theorem readEr_all {s:List UInt8} {acc:List FileB} (h:¬20000<s.length) (ha:allL s=(acc,true)):readEr s=treeEr acc∧readT s=if (treeEr acc).code=0 then acc else []:=by
 have e:readEr s=treeEr acc:=by unfold readEr;rw [if_neg h,ha];rfl
 exact ⟨e,by unfold readT;rw [e,ha]⟩
theorem file_eq (f g:FileB):f=g↔f.path=g.path∧f.run=g.run∧f.text=g.text:=by
 constructor
 ·rintro rfl;exact ⟨rfl,rfl,rfl⟩
 ·cases f;cases g;rintro ⟨h1,h2,h3⟩;simp only at h1 h2 h3;subst h1;subst h2;subst h3;rfl
instance :DecidableEq FileB:=fun f g=>decidable_of_iff _ (file_eq f g).symm
theorem str_eqb (a b:ByteArray):(a.toList==b.toList)=decide (a=b):=by
 by_cases h:a=b
 ·subst h;simp
 ·rw [decide_eq_false h,beq_eq_false_iff_ne];exact fun e=>h (bl_inj (by rw [toList_bl,toList_bl] at e;exact e))
theorem Tryz.notFaultE (v:Value) (w:World):(Instr.typeAssert (.iface 298 v) 27 70 true).run Tryz.prog w=.ok (.tuple #[.pointer none,.bool false]) w:=by kernel_rfl
theorem Tryz.notFaultN (w:World):(Instr.typeAssert .nilIface 27 70 true).run Tryz.prog w=.ok (.tuple #[.pointer none,.bool false]) w:=by kernel_rfl
theorem Tryz.isFault (v:Value) (w:World):(Instr.typeAssert (.iface 70 v) 27 70 true).run Tryz.prog w=.ok (.tuple #[v,.bool true]) w:=by kernel_rfl
theorem treeBare_any {E:Nat→Addr} (er:Er) (ev:Value) (w:World) (h:IsErr E w ev er):
  Calls Tryz.prog 35 #[ev] w fun e w'=>(∃u,e=.returned u∧Hid (IsErr E w' u ⟨er.code,none⟩))∧w=w':=by
 rcases h with ⟨he,rfl⟩|⟨k,hk,he,rfl⟩|⟨k,a,b,hk,he,rfl,h1,h2⟩
 ·have H:Hid (IsErr E w .nilIface ⟨er.code,none⟩):=by show IsErr _ _ _ _;rw [show er.code=0 by rw [he]];exact .inl ⟨rfl,rfl⟩
  clear he;go_enter Tryz.func35,Tryz.ntmps35;have hna:=fun w=>Tryz.notFaultN w
  go_wp2_with fail;go_ret;exact ⟨⟨_,rfl,H⟩,rfl⟩
 ·have H:Hid (IsErr E w (sentV E k) ⟨er.code,none⟩):=by show IsErr _ _ _ _;rw [show er.code=k+1 by rw [he]];exact IsErr.base E w k hk
  clear he;go_enter Tryz.func35,Tryz.ntmps35;have hna:=fun w=>Tryz.notFaultE (.pointer (some (E k))) w
  go_wp2_with fail;go_ret;exact ⟨⟨_,rfl,H⟩,rfl⟩
 ·have H:Hid (IsErr E w (sentV E k) ⟨er.code,none⟩):=by show IsErr _ _ _ _;rw [show er.code=k+1 by rw [he]];exact IsErr.base E w k hk
  clear he;go_enter Tryz.func35,Tryz.ntmps35;have hna:=fun w=>Tryz.isFault (.pointer (some ⟨b,0,none⟩)) w
  go_wp2_with fail;go_ret;exact ⟨⟨_,rfl,H⟩,rfl⟩
end Go.Proofs.YtaabgmbjmfjdjaaGreatDoor
