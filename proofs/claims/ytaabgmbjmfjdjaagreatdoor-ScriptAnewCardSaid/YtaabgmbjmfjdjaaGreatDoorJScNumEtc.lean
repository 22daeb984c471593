import Derived.Test.YtaabgmbjmfjdjaaGreatDoorJPackedUpEtc
import Derived.Test.YtaabgmbjmfjdjaaGreatDoorJRowedEtc
import Derived.Test.YtaabgmbjmfjdjaaGreatDoorJRanged
import Derived.Laws.AppendOwn
import Derived.Test.YtaabgmbjmfjdjaaGreatDoorJSummed
import Derived.Test.YtaabgmbjmfjdjaaGreatDoorJStepSrcEtc
import Derived.Test.YtaabgmbjmfjdjaaGreatDoorJErrors
import Derived.Test.YtaabgmbjmfjdjaaGreatDoorJToldEtc
import Derived.Test.YtaabgmbjmfjdjaaGreatDoorJNetPlainEtc
import Derived.Test.YtaabgmbjmfjdjaaGreatDoorJShopRecEtc
import Derived.Test.YtaabgmbjmfjdjaaGreatDoorJSortSeqEtc
import Derived.Test.YtaabgmbjmfjdjaaGreatDoorJRefLinkUp
import Derived.Test.YtaabgmbjmfjdjaaGreatDoorJShopLoadEtc
import Derived.Test.YtaabgmbjmfjdjaaGreatDoorJCleanUp
namespace Go.Proofs.YtaabgmbjmfjdjaaGreatDoor
open Go Go.RowKit
set_option maxHeartbeats 4000000
set_option maxRecDepth 100000
theorem Tryz.infoStrP:(Tryz.prog.info? 9).map (fun i=>(i.zero,i.size,i.bytes))=some (some (.string ⟨#[]⟩),1,16):=by kernel_rfl
section
variable {w:World} {base:Nat} {v:Value} {ops:Array Oper} {rest:List Oper} {o:Oper} {a:Act} {Q:Exit→Act→World→Prop}
theorem push_str {acc:List ByteArray} {x:ByteArray} (hg:o.guard=none) (p q:Operand) (hop:o.op=Op.call {callee:=Callee.builtin Builtin.append,args:=#[p,q],argTypes:=#[22,22]})
  (hs:a.eval p=v) (hx:a.eval q=.slice (some ⟨w.heap.size,0,none⟩) 1 1) (hown:w.ownsRow base 9 1 v acc.length (acc.map Value.string)) (hn:acc.length≤1000000) (hB:base≤w.heap.size)
  (hK:∀v' w',Hid (w'.ownsRow base 9 1 v' (acc++[x]).length ((acc++[x]).map Value.string))→Below base w w'→wpList Tryz.prog ops Q rest (a.put o.dst v') w'):wpList Tryz.prog ops Q (o::rest) a (w.alloc (.cells #[.string x] 9)):=by
 obtain ⟨i0,hi0,hz0,hz1,hz2⟩:=info_parts Tryz.infoStrP;have hb:Below base w (w.alloc (.cells #[.string x] 9)):=(Below.refl _ _).alloc hB _;refine wpList_append_own _ hg p q 22 hop base 9 i0 (.string ⟨#[]⟩) 1 16 Tryz.underlying22 hi0 hz0 hz1 hz2 rfl (by decide) _ _ _ hs (hown.alloc _) ⟨w.heap.size,0,none⟩ 1 1 [.string x] hx rfl ?_ ?_ (by unfold maxLen;omega) (by omega) (by simp;omega) ?_
 ·intro j u hj
  match j,hj with
  |0,hj=>simp at hj;subst hj;rw [Addr.add_lit,World.cell?_alloc_at _ _ _ _ rfl];rfl
 ·intro u hu;simp at hu;subst hu;rfl
 ·intro v' w' h1 h2 _;exact hK v' w' (by show World.ownsRow _ _ _ _ _ _ _;simpa using h1) (hb.grown h2 (by simp;omega) (fun g hg=>(hown.lt g hg).1))
theorem push_out {acc:List ByteArray} {x:ByteArray} (hg:o.guard=none) (p q:Operand) (hop:o.op=Op.call {callee:=Callee.builtin Builtin.append,args:=#[p,q],argTypes:=#[22,22]})
  (hs:a.eval p=v) (hx:a.eval q=.slice (some ⟨w.heap.size,0,none⟩) 1 1) (hown:w.ownsRow base 9 1 v acc.length (acc.map Value.string)) (hnil:acc=[]→v=.slice none 0 0) (hn:acc.length≤1000000) (hB:base≤w.heap.size)
  (hK:∀v' w',Hid (w'.ownsRow base 9 1 v' (acc++[x]).length ((acc++[x]).map Value.string))→Below base w w'→Hid ((∀k,k<w.heap.size→v.ownBlock≠some k→w'.heap[k]? =w.heap[k]?)∧∀(g:Nat) (t:ByteArray),w.heap[g]? =some (.cells #[.string t] 9 (0,0))→v.ownBlock≠some g→v'.ownBlock≠some g)→wpList Tryz.prog ops Q rest (a.put o.dst v') w'):wpList Tryz.prog ops Q (o::rest) a (w.alloc (.cells #[.string x] 9)):=by
 obtain ⟨i0,hi0,hz0,hz1,hz2⟩:=info_parts Tryz.infoStrP;have hb:Below base w (w.alloc (.cells #[.string x] 9)):=(Below.refl _ _).alloc hB _;obtain ⟨b2,hb2,hown2,hb2g⟩:∃b2,base≤b2∧w.ownsRow b2 9 1 v acc.length (acc.map Value.string)∧b2≤w.heap.size∧(acc=[]→b2=w.heap.size):=by
  by_cases h0:acc=[]
  ·subst h0;rw [hnil rfl];exact ⟨w.heap.size,hB,World.ownsRow_nil _ _ _ _,Nat.le_refl _,fun _=>rfl⟩
  ·exact ⟨base,Nat.le_refl _,hown,hB,fun h=>absurd h h0⟩
 have hb2s:=hb2g.1;refine wpList_append_own _ hg p q 22 hop b2 9 i0 (.string ⟨#[]⟩) 1 16 Tryz.underlying22 hi0 hz0 hz1 hz2 rfl (by decide) _ _ _ hs (hown2.alloc _) ⟨w.heap.size,0,none⟩ 1 1 [.string x] hx rfl ?_ ?_ (by unfold maxLen;omega) (by omega) (by simp;omega) ?_
 ·intro j u hj
  match j,hj with
  |0,hj=>simp at hj;subst hj;rw [Addr.add_lit,World.cell?_alloc_at _ _ _ _ rfl];rfl
 ·intro u hu;simp at hu;subst hu;rfl
 ·intro v' w' h1 h2 _;have h3:w'.ownsRow b2 9 1 v' (acc++[x]).length ((acc++[x]).map Value.string):=by simpa using h1
  have hf:∀k,k<w.heap.size→v.ownBlock≠some k→w'.heap[k]? =w.heap[k]?:=fun k hk hne=>by
   rw [h2.block k (by simp;omega) (fun e=>hne e.symm),Below.heap_alloc _ _ _ hk]
  refine hK v' w' (row_mono h3 hb2) (hb.grown h2 (by simp;omega) (fun g hg=>(hown.lt g hg).1)) ⟨hf,?_⟩;intro g t hgt hne e;have hgl:g<w.heap.size:=(Array.getElem?_eq_some_iff.1 hgt).1;by_cases h0:acc=[]
  ·have:=(h3.lt g e).1;rw [hb2g.2 h0] at this;omega
  ·rcases h3.2 with ⟨rfl,_⟩|⟨g2,cap,cur,rfl,_,hg2,hn2,_,hsz,_⟩
   ·cases e
   ·cases e;have hg3:=(hf _ hgl hne).trans hgt;rw [show _=_ from hg2] at hg3;have:=List.length_pos_iff.2 h0
    cases hg3;simp at hsz hn2;omega
theorem push_file {acc:List FileB} {f:FileB} (hg:o.guard=none) (p q:Operand) (hop:o.op=Op.call {callee:=Callee.builtin Builtin.append,args:=#[p,q],argTypes:=#[124,124]})
  (hs:a.eval p=v) (hx:a.eval q=.slice (some ⟨w.heap.size,0,none⟩) 1 1) (hown:FOwn w base v acc) (hn:acc.length≤1000000) (hB:base≤w.heap.size)
  (hK:∀v' w',Hid (FOwn w' base v' (acc++[f]))→Below base w w'→wpList Tryz.prog ops Q rest (a.put o.dst v') w'):wpList Tryz.prog ops Q (o::rest) a (w.alloc (.cells #[.string f.path,.bool f.run,.string f.text] 170)):=by
 obtain ⟨i0,hi0,hz0,hz1,hz2⟩:=info_parts Tryz.infoFile;have hb:Below base w (w.alloc (.cells #[.string f.path,.bool f.run,.string f.text] 170)):=(Below.refl _ _).alloc hB _;refine wpList_append_own _ hg p q 124 hop base 170 i0 (.agg #[.string ⟨#[]⟩,.bool false,.string ⟨#[]⟩]) 3 40 Tryz.underlying124 hi0 hz0 hz1 hz2 rfl (by decide) _ _ _ hs (World.ownsRow.alloc hown _) ⟨w.heap.size,0,none⟩ 1 1 (encFile f) hx rfl ?_ ?_ (by unfold maxLen;omega) (by omega) (by simp;omega) ?_
 ·intro j u hj;rw [Addr.add_lit,World.cell?_alloc_at _ _ _ _ rfl]
  match j,hj with
  |0,hj=>exact hj
  |1,hj=>exact hj
  |2,hj=>exact hj
 ·intro u hu;simp at hu;rcases hu with rfl|rfl|rfl<;>rfl
 ·intro v' w' h1 h2 _;exact hK v' w' (by show World.ownsRow _ _ _ _ _ _ _;simpa using h1) (hb.grown h2 (by simp;omega) (fun g hg=>(World.ownsRow.lt hown g hg).1))
end
theorem num_nine {l:List UInt8} {n:Nat} (h:numOf l 9=some n):n<1000000000:=by
 obtain ⟨h1,h2⟩:=numOf_some h;have h3:=valD_lt (Lib.decDigits n) 0 (decDigits_isD n);rw [valD_dec,←h1] at h3;have h4:10 ^ l.length≤10 ^ 9:=Nat.pow_le_pow_right (by decide) h2;omega
def ScNumPost (E:Nat→Addr) (o:Option Nat) (w:World) (e:Ending) (w':World):Prop:=
 ((∃n:Nat,e=.returned (.tuple #[.int .i64 n,.nilIface])∧Hid (o=some n)∧n<1000000000)∨(e=.returned (.tuple #[.int .i64 0,sentV E 0])∧Hid (o=none)))∧Below w.heap.size w w'
theorem scNumber_any {E:Nat→Addr} (s:ByteArray) (w:World) (hs:s.size≤1000000) (ha:AtoiEnv w) (hp:PowTab w) (hE:Env E w):
  Calls Tryz.prog 77 #[.string s] w (ScNumPost E (numOf (bl s) 9) w):=by
 have C:=Lib.hid (sumNumber_any s 9 (by decide) w (by omega) ha hp);have HE:=Lib.hid hE;clear ha hp hE;go_enter Tryz.func77,Tryz.ntmps77;go_wp2_with fail;refine C.out.mono ?_;clear C;rintro e w1 ⟨n,ok,rfl,HT,hb⟩
 cases ok with
 |true=>
  obtain ⟨m,hm,rfl⟩:∃m:Nat,numOf (bl s) 9=some m∧n=m:=by
   rcases HT.out with ⟨m,h1,h2,_⟩|h
   ·exact ⟨m,h1,h2⟩
   ·cases h.2
  have hn:=num_nine hm;have HM:=Lib.hid hm;clear hm HT;go_wp2_with fail;go_ret2;exact ⟨.inl ⟨m,rfl,HM,hn⟩,hb⟩
 |false=>
  have HM:Hid (numOf (bl s) 9=none):=by
   rcases HT.out with ⟨m,_,_,h⟩|h
   ·cases h
   ·exact h.1
  have e0:=(HE.out.ext hb).eText;clear HT;go_wp2_with fail;go_quiet (fail);go_wp2_with fail;go_ret2;exact ⟨.inr ⟨rfl,HM⟩,hb.trans ((below_drewN _ _ _).mono hb.size)⟩
def BarePost (E:Nat→Addr) (er:Er) (w:World) (e:Ending) (w':World):Prop:=(∃k,k<13∧er.code=k+1∧e=.returned (sentV E k))∧Below w.heap.size w w'
theorem scBare_any {E:Nat→Addr} {er:Er} {ev:Value} {w:World} (hI:IsErr E w ev er) (h0:er.code≠0) (hE:Env E w):
  Calls Tryz.prog 16 #[ev] w (BarePost E er w):=by
 rcases hI with ⟨rfl,_⟩|⟨k,hk,rfl,rfl⟩|⟨k,a,b,hk,rfl,rfl,h1,h2⟩
 ·exact absurd rfl h0
 ·clear h0;go_enter Tryz.func16,Tryz.ntmps16;go_wp2_with fail;refine (as_miss_below (hE.ext ((Below.refl _ _).alloc (Nat.le_refl _) _)) _ _ (.pointer none) (by go_simp)).mono ?_;rintro ev w1 ⟨rfl,hb⟩;have hb1:Below w.heap.size w w1:=((Below.refl _ _).alloc (Nat.le_refl _) _).trans (hb.mono (by simp));clear hb hE;go_wp2_with fail;go_ret;exact ⟨⟨k,hk,rfl,rfl⟩,hb1⟩
 ·clear h0;go_enter Tryz.func16,Tryz.ntmps16;go_wp2_with fail;refine (as_hit_grown (hE.ext ((Below.refl _ _).alloc (Nat.le_refl _) _)) _ _ (.pointer none) (by go_simp) (by go_simp)).mono ?_;rintro ev w1 ⟨rfl,hp,hg⟩;have hb1:Below w.heap.size w w1:=((Below.refl _ _).alloc (Nat.le_refl _) _).grown hg (by simp) (by rintro _ ⟨⟩;exact Nat.le_refl _);have hf1:w1.cell? ⟨b,1,none⟩=some (sentV E k):=by rw [hb1.cell (p:=⟨b,1,none⟩) (lt_of_cell h2)];exact h2
  clear hg h1 h2 hE;go_wp2_with fail;go_ret;exact ⟨⟨k,hk,rfl,rfl⟩,hb1⟩
theorem scJoined_any {W:World} {base:Nat} {v:Value} {out:List ByteArray} (hr:W.ownsRow base 9 1 v out.length (out.map Value.string)) (hn:out.length≤1000) (hz:∀z∈out,z.size≤1000000):
  Calls Tryz.prog 90 #[v] W fun e w'=>(∃x:ByteArray,e=.returned (.string x)∧Hid (bl x=joinedL (out.map bl)))∧Below W.heap.size W w':=by
 obtain ⟨a,cap,rfl⟩:=row_form hr;by_cases h0:out=[]
 ·subst h0;have H:Hid (bl (⟨#[110,111,116,104,105,110,103]⟩:ByteArray)=joinedL ([].map bl)):=rfl;clear hr hz;go_enter Tryz.func90,Tryz.ntmps90;go_wp2_with fail;go_ret;exact ⟨⟨_,rfl,H⟩,Below.refl _ _⟩
 ·have C:=Lib.hid (joinSep_any ⟨#[32]⟩ (by decide) hr hn hz);have H:Hid (joinedL (out.map bl)=(bl (⟨#[32]⟩:ByteArray)).intercalate (out.map bl)):=by
   show _=_;unfold joinedL;rw [if_neg (by simpa using h0)];rfl
  have hl:((out.length:Int)==0)=false:=by
   have:=List.length_pos_iff.2 h0;simp;omega
  clear hr hz h0;go_enter Tryz.func90,Tryz.ntmps90;go_wp2_with fail;refine C.out.mono ?_;clear C;rintro e w' ⟨⟨x,rfl,HX⟩,hb⟩;have H2:Hid (bl x=joinedL (out.map bl)):=HX.out.trans H.out.symm;clear HX H hl;go_wp2_with fail;go_ret;exact ⟨⟨x,rfl,H2⟩,hb⟩
theorem mapM_step {l:List (List UInt8)} {k:Nat} {x:List UInt8} {acc:List FileB} {f:FileB} (h:l[k]? =some x) (ha:(l.take k).mapM fileW=some acc) (hx:fileW x=some f):(l.take (k+1)).mapM fileW=some (acc++[f]):=by
 rw [List.take_add_one,h];simp [List.mapM_append,ha,hx]
theorem mapM_bad {l:List (List UInt8)} {k:Nat} {x:List UInt8} {acc:List FileB} (h:l[k]? =some x) (ha:(l.take k).mapM fileW=some acc) (hx:fileW x=none):l.mapM fileW=none:=by
 have hk:=(List.getElem?_eq_some_iff.1 h);obtain ⟨hk1,hk2⟩:=hk;have e:l=l.take k++x::l.drop (k+1):=by rw [←hk2,List.getElem_cons_drop,List.take_append_drop]
 rw [e];simp [List.mapM_append,ha,hx]
theorem scPre_any (s p:ByteArray) (w:World):Calls Tryz.prog 110 #[.string s,.string p] w fun e w'=>
  (∃(d:ByteArray) (r:Bool),e=.returned (.tuple #[.string d,.bool r])∧Hid (r=Lib.hasPrefix (bl s) (bl p)∧bl d=Lib.trimPrefix (bl s) (bl p))∧d.size≤s.size)∧w=w':=by
 refine (Tryz.strings_CutPrefix s p w).mono ?_;rintro e w' ⟨rfl,rfl⟩;refine ⟨⟨_,_,rfl,⟨rfl,rfl⟩,?_⟩,rfl⟩;rw [←bl_length,←bl_length];show (Lib.trimPrefix (bl s) (bl p)).length≤_;unfold Lib.trimPrefix;split
 ·rw [List.length_drop];omega
 ·exact Nat.le_refl _
theorem file_of {z a t d:ByteArray} {r:Bool} (h:Lib.cut (bl z) [61]=(bl a,bl t,true)) (h1:r=Lib.hasPrefix (bl a) [43]) (h2:bl d=Lib.trimPrefix (bl a) [43]):fileW (bl z)=some ⟨d,r,t⟩:=by
 unfold fileW;rw [h];unfold Lib.trimPrefix Lib.hasPrefix at h2;unfold Lib.hasPrefix at h1;dsimp only;rw [if_neg (by simp)]
 cases hb:bl a with
 |nil=>
  rw [hb] at h1 h2;obtain rfl:r=false:=h1;rw [if_neg (by simp),←show bl d=[] from h2,mkF_bl]
 |cons c l=>
  rw [hb] at h1 h2;by_cases hc:c=43
  ·subst hc;obtain rfl:r=true:=by rw [h1];simp [List.isPrefixOf]
   rw [if_pos (by simp),←show bl d=(43::l).tail by rw [h2,if_pos (by simp [List.isPrefixOf])];rfl,mkF_bl]
  ·have hp:List.isPrefixOf [43] (c::l)=false:=by simp [List.isPrefixOf];exact fun e=>hc e.symm
   obtain rfl:r=false:=by rw [h1,hp]
   rw [if_neg (by simpa using hc),←show bl d=c::l by rw [h2,if_neg (by rw [hp];simp)],mkF_bl]
def FilesPost (E:Nat→Addr) (r:Nat×List FileB) (w:World) (e:Ending) (w':World):Prop:=
 (∃(v ev:Value) (er:Er),e=.returned (.tuple #[v,ev])∧Hid (IsErr E w' ev er∧er.code=r.1)∧Hid (FOwn w' w.heap.size v r.2))∧Below w.heap.size w w'
theorem scFiles_any {E:Nat→Addr} (s:ByteArray) (w:World) (hs:s.size≤1000) (hE:FtEnv E w):
  Calls Tryz.prog 73 #[.string s] w (FilesPost E (filesW (bl s)) w):=by
 have HE:=Lib.hid hE;obtain ⟨q,hq⟩:∃q:Bool,(s.toList== [45])=q:=⟨_,rfl⟩;have hq2:q=true↔bl s=[45]:=by rw [←hq,←toList_bl,beq_iff_eq]
 have C:=Lib.hid (split_any s 44 w (by omega) hE.tape.2.2);clear hE;go_enter Tryz.func73,Tryz.ntmps73
 cases q with
 |true=>
  have H:Hid (filesW (bl s)=(0,[])):=by show _=_;unfold filesW;rw [if_pos (hq2.1 rfl)]
  clear hq2 C;go_wp2_with fail;go_ret2;rw [H.out];exact ⟨⟨_,_,⟨0,none⟩,rfl,⟨.inl ⟨rfl,rfl⟩,rfl⟩,FOwn.nil _ _⟩,Below.refl _ _⟩
 |false=>
  have H:Hid (filesW (bl s)=match (cutL 44 (bl s)).mapM fileW with|none=>(1,[])|some l=>((sortT l).1.code,(sortT l).2)):=by show _=_;unfold filesW;rw [if_neg (fun h=>by have:=hq2.2 h;cases this)];first|done|(cases (cutL 44 (bl s)).mapM fileW<;>rfl)
  clear hq2;go_wp2_with fail;refine C.out.mono ?_;clear C;rintro e w1 ⟨⟨zs,n,rfl,HZ,hn,hl,HS,HA⟩,hb1⟩;obtain ⟨b,hb⟩:∃b,w.heap.size=b:=⟨_,rfl⟩;have HB:=Lib.hid hb;have HB1:=Lib.hid hb1;have HE1:=Lib.hid (HE.out.ext hb1);rw [hb] at HA⊢;subst hn;clear hb hb1 HE;go_wp2_with fail;go_loopw [4,16] (fun ov i wr=>∃(k:Nat) (acc:List FileB),k≤zs.length∧i=.int .i64 k∧acc.length≤k∧Hid (((cutL 44 (bl s)).take k).mapM fileW=some acc)∧Hid (∀f∈acc,SmallF f)∧Hid (FOwn wr w1.heap.size ov acc)∧Below w1.heap.size w1 wr) (fun _ i _=>zs.length- (intOf i).toNat)
  case atStart=>exact ⟨0,[],Nat.zero_le _,rfl,Nat.le_refl _,rfl,(fun _ h=>by cases h),FOwn.nil _ _,Below.refl _ _⟩
  case round=>
   obtain ⟨k,acc,hk,rfl,hac,HM,HF,HO,hbr⟩:=hrel;obtain ⟨oo,oc,rfl⟩:=HO.out.shape;by_cases hlt:k<zs.length
   ·have z0:=(hbr.cell (p:=⟨b,k,none⟩) HA.out.1).trans (HA.out.2 k hlt);have hbl:=HA.out.1;have hzs:=HS.out zs[k] (List.getElem_mem hlt);have HG:Hid ((cutL 44 (bl s))[k]? =some (bl zs[k])):=by show _=_;rw [←HZ.out,List.getElem?_map,List.getElem?_eq_getElem hlt];rfl
    obtain ⟨z,hz⟩:∃z,zs[k]=z:=⟨_,rfl⟩;rw [hz] at z0 hzs HG;clear hz;have C:=Lib.hid (strCut_any z ⟨#[61]⟩ wr (by omega) ((HE1.out.ext hbr).tape.2.2));go_wp2_with fail;refine C.out.mono ?_;clear C;rintro e w2 ⟨⟨a,t,c,rfl,HC,ha,ht⟩,hb2⟩;have hbr2:=hbr.trans (hb2.mono hbr.size)
    cases c with
    |false=>
     have HX:Hid (fileW (bl z)=none):=by show _=_;unfold fileW;rw [show Lib.cut (bl z) [61]=_ from HC.out,if_pos rfl]
     have HY:Hid (filesW (bl s)=(1,[])):=by show _=_;rw [H.out,mapM_bad HG.out HM.out HX.out]
     have e0:=(HE1.out.ext hbr2).env.eText;clear HX HG HM HC H;go_wp2_with fail;go_quiet (fail);go_wp2_with fail;go_ret2;rw [HY.out];have h3:Below w.heap.size w (w2.drewN nq):=HB1.out.trans ((hbr2.trans (below_drewN _ _ _)).mono HB1.out.size);exact ⟨⟨_,_,⟨1,none⟩,rfl,⟨IsErr.sent (by decide),rfl⟩,FOwn.nil _ _⟩,h3⟩
    |true=>
     have C:=Lib.hid (scPre_any a ⟨#[43]⟩ w2);go_wp2_with fail;refine C.out.mono ?_;clear C;rintro e w3 ⟨⟨d,r,rfl,HD,hd⟩,rfl⟩;have HM2:=Lib.hid (mapM_step HG.out HM.out (file_of HC.out HD.out.1 HD.out.2));have HF2:Hid (∀f∈acc++[⟨d,r,t⟩],SmallF f):=fun f hf=>by
      rcases List.mem_append.1 hf with h|h
      ·exact HF.out f h
      ·rcases List.mem_singleton.1 h with rfl;exact ⟨by show d.size≤_;omega,by show t.size≤_;omega⟩
     have HO2:=Lib.hid (HO.out.ext hb2);have hBs:=hbr2.size;clear HM HF HG HC HD HO hb2;go_wp2_with (at_builtin;refine push_file (f:=⟨d,r,t⟩) rfl _ _ rfl rfl rfl HO2.out (by omega) hBs ?_);intro v' w4 HO3 hb4;have hbr4:=hbr2.trans hb4;clear HO2 hb4 hbr2 hbr;go_wp2_with fail;go_roundw
     case rel=>exact ⟨k+1,acc++[⟨d,r,t⟩],by omega,by go_num,by simp;omega,HM2,HF2,HO3,hbr4⟩
     case measure=>simp [intOf];omega
   ·obtain rfl:k=zs.length:=by omega
    have HX:Hid ((cutL 44 (bl s)).mapM fileW=some acc):=by
     show _=_;have:=HM.out;rwa [List.take_of_length_le (by rw [←HZ.out,List.length_map];exact Nat.le_refl _)] at this
    have HY:Hid (filesW (bl s)=((sortT acc).1.code,(sortT acc).2)):=by show _=_;rw [H.out,HX.out]
    have C:=Lib.hid (treeSort_any _ acc wr HO.out.row (by omega) HF.out (HE1.out.ext hbr).1.1.1);clear HX HM H;go_wp2_with fail;refine C.out.mono ?_;clear C;rintro e w2 ⟨⟨v,ev,rfl,HI,HO2⟩,hb2⟩;have h3:Below w.heap.size w w2:=HB1.out.trans ((hbr.trans (hb2.mono hbr.size)).mono HB1.out.size);have HO3:Hid (FOwn w2 w.heap.size v (sortT acc).2):=row_mono HO2.out (Nat.le_trans HB1.out.size hbr.size);clear HO2 HO hb2;go_wp2_with fail;go_ret2;rw [HY.out];exact ⟨⟨_,_,(sortT acc).1,rfl,⟨HI.out,rfl⟩,HO3⟩,h3⟩
theorem filesW_right {s:List UInt8} (h:(filesW s).1=0):(treeEr (filesW s).2).code=0:=by
 unfold filesW at h⊢;split
 ·rfl
 ·rename_i h0;rw [if_neg h0] at h
  cases hm:(cutL 44 s).mapM fileW with
  |none=>rw [hm] at h;cases h
  |some l=>
   rw [hm] at h;obtain ⟨h1,h2⟩:=sortT_ok h;show (treeEr (sortT l).2).code=0;rw [h1];exact (treeOk_iff _).2 h2
section
variable {E:Nat→Addr} {w:World} {B nb sb pb tn:Nat} {kv:Value} {P:PlayS}
theorem cmdCalls_any (v:Value) (h:Plays E w B nb sb pb tn kv P) (ht:tn<100000000):
  Calls Tryz.prog 42 #[.pointer (some ⟨pb,0,none⟩),v] w (CmdPost E B pb tn kv (0,Lib.decDigits P.net.calls,P) w):=by
 refine post_hide fun R0 HR0=>?_
 obtain ⟨_,_,_,_,_,hp⟩:=h.prog;have hcl:P.net.calls≤1000000000:=by obtain ⟨_,_,_,_,_,_,_,hA⟩:=hp.net;have:=hA.hcl;omega
 have C:=Lib.hid (netCalls_any B nb tn P.net w hp.net);have C2:=Lib.hid (itoa_any P.net.calls (by omega) w h.ft.1.1.2);obtain ⟨c0,c1,c2⟩:=h.cells;have HH:=Lib.hid h;clear hp h;go_enter Tryz.func42,Tryz.ntmps42;go_wp2_with fail;refine C.out.mono ?_;rintro e w1 ⟨rfl,rfl⟩;go_wp2_with fail;refine C2.out.mono ?_;rintro e w2 ⟨t,rfl,HT,_,hb⟩;go_wp2_with fail;go_ret2;rw [←HR0.out];exact CmdPost.told HH.out hb HT.out
theorem cmdSum_any (a:ByteArray) (v:Value) (h:Plays E w B nb sb pb tn kv P) (hv:SPart w B v [a]) (ha:a.size≤1000) (_:tn<100000000):
  Calls Tryz.prog 43 #[.pointer (some ⟨pb,0,none⟩),v] w (CmdPost E B pb tn kv (if (filesW (bl a)).1≠0 then ((filesW (bl a)).1,[],P) else (0,sumTx (treeSum (filesW (bl a)).2),P)) w):=by
 refine post_hide fun R0 HR0=>?_
 obtain ⟨g,off,cap,rfl,hc1,hc2,R⟩:=h.words hv;have HH:=Lib.hid h;have C:=Lib.hid (scFiles_any (E:=E) a w ha h.ft);have HOK:=Lib.hid (@filesW_right (bl a));have q0:w.cell? ⟨g,off,none⟩=some (.string a):=(R w (Keeps.refl _ _ _)).ws 0 (by simp);clear hv h R;go_enter Tryz.func43,Tryz.ntmps43;go_wp2_with fail;refine C.out.mono ?_;clear C q0;rintro e w1 ⟨⟨fv,ev,er,rfl,HI,HO⟩,hb1⟩;obtain ⟨r0,hr0⟩:∃r,filesW (bl a)=r:=⟨_,rfl⟩;rw [hr0] at HI HO HOK;obtain ⟨fc,fl⟩:=r0;have HF0:=Lib.hid hr0;clear hr0;by_cases hz:fc=0
 ·subst hz;obtain rfl:ev=.nilIface:=HI.out.1.zero HI.out.2;have hok:=HOK.out rfl;dsimp only at hok;have hsm:=right_small hok;have C:=Lib.hid (packSum_any (E:=E) fv fl w1 HO.out.row (by omega) hsm.2.1 (HH.out.below hb1).ft.1.1);have HX:Hid ((treeSum fl=(sumL (packT fl):Nat))∧(sumL (packT fl):Nat)<1000000007):=⟨rfl,sumL_lt _⟩;have HOKT:=Lib.hid hok;clear HI hsm hok HOK HO;go_wp2_with fail;refine C.out.mono ?_;clear C;rintro e w2 ⟨⟨ev,rfl,HI⟩,hb2⟩;obtain rfl:ev=.nilIface:=HI.out.zero HOKT.out;have hbw:=hb1.trans (hb2.mono hb1.size);have C:=Lib.hid (sumText_ok (sumL (packT fl)) HX.out.2 w2 (HH.out.below hbw).ft.1.1.2);clear HI hb1 hb2 HOKT;go_wp2_with fail;refine C.out.mono ?_;rintro e w3 ⟨t,rfl,HT,_,hb3⟩;go_wp2_with fail;go_ret2;rw [←HR0.out];rw [HF0.out];dsimp only;rw [if_neg (by simp)];exact CmdPost.told HH.out (hbw.trans (hb3.mono hbw.size)) (by rw [HT.out,HX.out.1];rfl)
 ·have hc:er.code≠0:=by rw [HI.out.2];exact hz
  obtain ⟨te,xv,rfl⟩:=HI.out.1.some_inv hc;have HI1:=Lib.hid HI.out.1;have he:er.code=fc:=HI.out.2;clear HI HO HOK;go_wp2_with fail;go_ret2;rw [←HR0.out];rw [HF0.out];dsimp only;rw [if_pos hz,←he];exact CmdPost.bad HH.out hb1 HI1.out hc _
theorem cmdClean_any (a:ByteArray) (v:Value) (h:Plays E w B nb sb pb tn kv P) (hv:SPart w B v [a]) (ha:a.size≤1000) (_:tn<100000000):
  Calls Tryz.prog 54 #[.pointer (some ⟨pb,0,none⟩),v] w (CmdPost E B pb tn kv (cleanE (bl a),if cleanT (bl a)=[] then [46] else cleanT (bl a),P) w):=by
 refine post_hide fun R0 HR0=>?_
 obtain ⟨g,off,cap,rfl,hc1,hc2,R⟩:=h.words hv;have HH:=Lib.hid h;have C:=Lib.hid (clean_any (E:=E) a w (by omega) ⟨⟨h.ft.env.eName,h.ft.env.eFull,h.ft.tape.2.2⟩,h.ft.env.eShape,h.ft.env.eOut⟩);have q0:w.cell? ⟨g,off,none⟩=some (.string a):=(R w (Keeps.refl _ _ _)).ws 0 (by simp);have hle:cleanE (bl a)≤13:=cleanE_le _;clear hv h R;go_enter Tryz.func54,Tryz.ntmps54;go_wp2_with fail;refine C.out.mono ?_;clear C q0;rintro e w1 ⟨⟨x,rfl,HX⟩,hb⟩;obtain ⟨ce,hce⟩:∃ce,cleanE (bl a)=ce:=⟨_,rfl⟩;rw [hce] at hle⊢;have HCE:=Lib.hid hce;clear hce
 cases ce with
 |succ c=>
  rw [show errV E (c+1)=sentV E c from rfl];go_wp2_with fail;go_ret2;rw [←HR0.out];rw [show cleanE (bl a)=_ from HCE.out];exact CmdPost.bad (er:=⟨c+1,none⟩) HH.out hb (IsErr.sent (by omega)) (by simp) _
 |zero=>
  rw [show errV E 0=.nilIface from rfl]
  cases hx:x.toList.isEmpty with
  |true=>
   have H:Hid ([46]=if bl x=[] then [46] else bl x):=by show _=_;rw [if_pos (by rw [←toList_bl];exact List.isEmpty_iff.1 hx)]
   go_wp2_with fail;go_ret2;rw [←HR0.out];rw [show cleanE (bl a)=_ from HCE.out,←HX.out,←H.out];exact CmdPost.told HH.out hb rfl
  |false=>
   have H:Hid (bl x=if bl x=[] then [46] else bl x):=by show _=_;rw [if_neg (by rw [←toList_bl];intro h;rw [h] at hx;cases hx)]
   go_wp2_with fail;go_ret2;rw [←HR0.out];rw [show cleanE (bl a)=_ from HCE.out,←HX.out,←H.out];exact CmdPost.told HH.out hb rfl
theorem cmdHeld_any (v:Value) (h:Plays E w B nb sb pb tn kv P) (_:tn<100000000):
  Calls Tryz.prog 47 #[.pointer (some ⟨pb,0,none⟩),v] w (CmdPost E B pb tn kv (0,joinedL (P.shop.held.sums.map sumTx),P) w):=by
 refine post_hide fun R0 HR0=>?_
 obtain ⟨_,_,_,_,_,hp⟩:=h.prog;have C:=Lib.hid (shopHeld_any hp h.size);have hfew:P.shop.held.sums.length≤40:=by have:=h.held.len;have:=h.held.few;rw [sums_len];omega
 have HR:Hid (∀n∈P.shop.held.sums,0≤n∧n<1000000007):=fun n hn=>by
  obtain ⟨p,hp,rfl⟩:=List.mem_map.1 hn;rw [(h.held.right p hp).2];have:sumL (packT p.2)<1000000007:=sumL_lt _;show 0≤((sumL (packT p.2):Nat):Int)∧((sumL (packT p.2):Nat):Int)<_;omega
 obtain ⟨c0,c1,c2⟩:=h.cells;have HH:=Lib.hid h;obtain ⟨L,hL⟩:∃L,P.shop.held.sums=L:=⟨_,rfl⟩;rw [hL] at hfew HR;have HLs:=Lib.hid hL;clear hp h hL;go_enter Tryz.func47,Tryz.ntmps47;go_wp2_with fail;refine C.out.mono ?_;clear C c0 c1 c2;rintro e w1 ⟨⟨b,rfl,HV,_⟩,hb1⟩;have C:=Lib.hid (heldSums_any B b P.shop.held w1 HV.out);go_wp2_with fail;refine C.out.mono ?_;clear C HV;rintro e w2 ⟨⟨ov,rfl,HO⟩,hb2⟩;have hbw:=hb1.trans (hb2.mono hb1.size);rw [HLs.out] at HO;obtain ⟨ao,cap,rfl,k1,k2,H3⟩:=HO.out.row.parts;have HM:=Lib.hid H3;clear H3 HO hb1 hb2;go_wp2_with fail;go_loopw [6,16] (fun ov i wr=>∃(k:Nat) (acc:List ByteArray),k≤L.length∧i=.int .i64 k∧acc.length≤k∧Hid (acc.map bl=(L.take k).map sumTx∧∀z∈acc,z.size≤22)∧Hid (wr.ownsRow w2.heap.size 9 1 ov acc.length (acc.map Value.string))∧Below w2.heap.size w2 wr) (fun _ i _=>L.length- (intOf i).toNat)
 case atStart=>exact ⟨0,[],Nat.zero_le _,rfl,Nat.le_refl _,⟨rfl,fun _ h=>by cases h⟩,World.ownsRow_nil _ _ _ _,Below.refl _ _⟩
 case round=>
  obtain ⟨k,acc,hk,rfl,hac,HA,HO,hbr⟩:=hrel;obtain ⟨oo,oc,rfl⟩:=row_form HO.out;have hbb:=hbw.trans (hbr.mono hbw.size);by_cases hlt:k<L.length
  ·obtain ⟨b,off,rfl,hbl,hcell⟩:=HM.out k hlt;have z0:=(hbr.cell (p:=⟨b,off+k,none⟩) hbl).trans (hcell k hlt);have hn:=HR.out L[k] (List.getElem_mem hlt);have HT:Hid (L.take (k+1)=L.take k++[L[k]]):=by show _=_;rw [List.take_add_one,List.getElem?_eq_getElem hlt];rfl
   obtain ⟨n,hnn⟩:∃n,L[k]=n:=⟨_,rfl⟩;rw [hnn] at z0 hn HT;obtain ⟨m,rfl⟩:∃m:Nat,n=m:=⟨n.toNat,by omega⟩;have C:=Lib.hid (sumText_ok m (by omega) wr (HH.out.below hbb).ft.1.1.2);clear hcell hnn;go_wp2_with fail;refine C.out.mono ?_;clear C;rintro e w3 ⟨t,rfl,HX,hts,hb3⟩;have hbr3:=hbr.trans (hb3.mono hbr.size);have hBs:=hbr3.size;have HO2:=Lib.hid (owns_below HO.out hb3);have HA2:Hid ((acc++[t]).map bl=(L.take (k+1)).map sumTx∧∀z∈acc++[t],z.size≤22):=by
    refine ⟨?_,fun z hz=>?_⟩
    ·rw [HT.out,List.map_append,List.map_append,HA.out.1,List.map_singleton,List.map_singleton,HX.out];rfl
    ·rcases List.mem_append.1 hz with h|h
     ·exact HA.out.2 z h
     ·rcases List.mem_singleton.1 h with rfl;exact hts
   clear HA HO HX HT z0 hb3 hbr hbb;go_wp2_with (at_builtin;refine push_str rfl _ _ rfl rfl rfl HO2.out (by omega) hBs ?_);intro v' w4 HO3 hb4;have hbr4:=hbr3.trans hb4;clear HO2 hb4 hbr3;go_wp2_with fail;go_roundw
   case rel=>exact ⟨k+1,acc++[t],by omega,by go_num,by simp;omega,HA2,(by show World.ownsRow _ _ _ _ _ _ _;simpa using HO3.out),hbr4⟩
   case measure=>simp [intOf];omega
  ·obtain rfl:k=L.length:=by omega
   have HA2:Hid (acc.map bl=L.map sumTx):=by show _=_;rw [HA.out.1,List.take_length]
   have C:=Lib.hid (scJoined_any HO.out (by omega) (fun z hz=>by have:=HA.out.2 z hz;omega));clear HA;go_wp2_with fail;refine C.out.mono ?_;rintro e w3 ⟨⟨x,rfl,HX⟩,hb3⟩;go_wp2_with fail;go_ret2;rw [←HR0.out];rw [show P.shop.held.sums=_ from HLs.out];exact CmdPost.told HH.out (hbb.trans (hb3.mono hbb.size)) (by rw [HX.out,HA2.out])
theorem cmdLock_any (v:Value) (h:Plays E w B nb sb pb tn kv P) (_:tn<100000000):
  Calls Tryz.prog 49 #[.pointer (some ⟨pb,0,none⟩),v] w (CmdPost E B pb tn kv (0,joinedL (P.shop.lock.map fun x=>bl x.name),P) w):=by
 refine post_hide fun R0 HR0=>?_
 obtain ⟨_,_,_,_,_,hp⟩:=h.prog;have C:=Lib.hid (shopLock_any hp h.few);have hfew:P.shop.lock.length≤20:=h.op.lock.few;have HR:=Lib.hid h.op.lock.small;obtain ⟨c0,c1,c2⟩:=h.cells;have HH:=Lib.hid h;obtain ⟨L,hL⟩:∃L,P.shop.lock=L:=⟨_,rfl⟩;rw [hL] at hfew HR C;have HLs:=Lib.hid hL;clear hp h hL;go_enter Tryz.func49,Tryz.ntmps49;go_wp2_with fail;refine C.out.mono ?_;clear C c0 c1 c2;rintro e w2 ⟨⟨ov,rfl,HO⟩,hbw⟩;obtain ⟨ao,cap,rfl,k1,k2,H3⟩:=HO.out.arg.1;have HM:=Lib.hid H3;clear H3 HO;go_wp2_with fail;go_loopw [6,15] (fun ov i wr=>∃(k:Nat) (acc:List ByteArray),k≤L.length∧i=.int .i64 k∧acc.length≤k∧Hid (acc=(L.take k).map (·.name))∧Hid (wr.ownsRow w2.heap.size 9 1 ov acc.length (acc.map Value.string))∧Below w2.heap.size w2 wr) (fun _ i _=>L.length- (intOf i).toNat)
 case atStart=>exact ⟨0,[],Nat.zero_le _,rfl,Nat.le_refl _,rfl,World.ownsRow_nil _ _ _ _,Below.refl _ _⟩
 case round=>
  obtain ⟨k,acc,hk,rfl,hac,HA,HO,hbr⟩:=hrel;obtain ⟨oo,oc,rfl⟩:=row_form HO.out;by_cases hlt:k<L.length
  ·obtain ⟨b,off,rfl,hbl,hcell⟩:=HM.out k hlt;obtain ⟨x0,x1,x2,x3,x4⟩:=hcell k hlt;have z0:=(hbr.cell (p:=⟨b,off+k*5,none⟩) hbl).trans x0;have z1:=(hbr.cell (p:=⟨b,off+k*5+1,none⟩) hbl).trans x1;have z2:=(hbr.cell (p:=⟨b,off+k*5+2,none⟩) hbl).trans x2;have z3:=(hbr.cell (p:=⟨b,off+k*5+3,none⟩) hbl).trans x3;have z4:=(hbr.cell (p:=⟨b,off+k*5+4,none⟩) hbl).trans x4;have HT:Hid (L.take (k+1)=L.take k++[L[k]]):=by show _=_;rw [List.take_add_one,List.getElem?_eq_getElem hlt];rfl
   obtain ⟨f,hf⟩:∃f,L[k]=f:=⟨_,rfl⟩;rw [hf] at z0 z1 z2 z3 z4 HT;clear hcell x0 x1 x2 x3 x4 hf;obtain ⟨pf,hpf⟩:∃pf,wr.heap.size=pf:=⟨_,rfl⟩;obtain ⟨wa,hwa⟩:∃wa,wr.alloc (.cells #[.string f.name,.string f.url,.string f.kind,.int .i64 f.strip,.int .i64 f.sum] 134)=wa:=⟨_,rfl⟩;have hal:Below wr.heap.size wr wa:=by rw [←hwa];exact (Below.refl _ _).alloc (Nat.le_refl _) _
   have hA:wa.cell? ⟨pf,0,none⟩=some (.string f.name):=by rw [←hwa,←hpf,Lib.cell_of_heap (heap_alloc_new wr _)];rfl
   have HWA:=Lib.hid hwa;have HPF:=Lib.hid hpf;have hbra:=hbr.trans (hal.mono hbr.size);have hBs:=hbra.size;have HO2:=Lib.hid (owns_below HO.out hal);have HA2:Hid (acc++[f.name]=(L.take (k+1)).map (·.name)):=by show _=_;rw [HT.out,List.map_append,←HA.out];rfl
   clear HA HO HT hwa hpf hal hbr;go_upto_region 5 with fail
   rw [HWA.out,HPF.out];clear z0 z1 z2 z3 z4;go_wp2_with (at_builtin;refine push_str rfl _ _ rfl rfl rfl HO2.out (by omega) hBs ?_);intro v' w4 HO3 hb4;have hbr4:=hbra.trans hb4;clear HO2 hb4 hbra;go_wp2_with fail;go_roundw
   case rel=>exact ⟨k+1,acc++[f.name],by omega,by go_num,by simp;omega,HA2,(by show World.ownsRow _ _ _ _ _ _ _;simpa using HO3.out),hbr4⟩
   case measure=>simp [intOf];omega
  ·obtain rfl:k=L.length:=by omega
   have HA2:Hid (acc=L.map (·.name)):=by show _=_;rw [HA.out,List.take_length]
   have hbb:=hbw.trans (hbr.mono hbw.size);have C:=Lib.hid (scJoined_any HO.out (by omega) (fun z hz=>by
    rw [HA2.out] at hz;obtain ⟨x,hx,rfl⟩:=List.mem_map.1 hz;have:=(HR.out x hx).1;omega))
   clear HA;go_wp2_with fail;refine C.out.mono ?_;rintro e w3 ⟨⟨x,rfl,HX⟩,hb3⟩;go_wp2_with fail;go_ret2;rw [←HR0.out];rw [show P.shop.lock=_ from HLs.out];exact CmdPost.told HH.out (hbb.trans (hb3.mono hbb.size)) (by rw [HX.out,HA2.out,List.map_map];rfl)
end
end Go.Proofs.YtaabgmbjmfjdjaaGreatDoor
