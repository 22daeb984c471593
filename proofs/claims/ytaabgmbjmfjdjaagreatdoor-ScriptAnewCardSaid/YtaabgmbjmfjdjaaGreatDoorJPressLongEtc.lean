import Derived.Test.YtaabgmbjmfjdjaaGreatDoorJRowedEtc
import Derived.Deep.RegionWith
import Derived.IntWalk
import Derived.Test.YtaabgmbjmfjdjaaGreatDoorJToldEtc
import Derived.Test.YtaabgmbjmfjdjaaGreatDoorJRefTreeUpEtc
import Derived.Test.YtaabgmbjmfjdjaaGreatDoorJParsedEtc
import Derived.Test.YtaabgmbjmfjdjaaGreatDoorJPlainly
namespace Go.Proofs.YtaabgmbjmfjdjaaGreatDoor
open Go Go.RowKit
set_option maxHeartbeats 1000000
set_option maxRecDepth 100000
theorem index_sum (s:ByteArray) (k n:Nat) (h:k+n<s.size) (W:World):(Instr.index 9 (.string s) (.int .i64 ((k:Int)+n))).run Tryz.prog W=.ok (.int .u8 s[k+n].toNat) W:=
 index_nat s _ (k+n) h (by omega) W
theorem wlen (acc:List UInt8) (t s:ByteArray) (k:Nat) (h:acc.length≤23*k) (ht:t.size≤21) (hk:k≤s.size) (hs:s.size≤1073741824):
  (Lib.byteCells acc).length+(t++{data:=#[58]}++s.extract k (k+1)).size≤140737488355328:=by
 rw [Lib.byteCells_length,←bl_length,bl_append,bl_append,bl_extract];have h1:(bl t).length≤21:=by rw [bl_length];exact ht
 have h2:(List.take (k+1-k) (List.drop k (bl s))).length≤1:=by simp only [List.length_take];omega
 have h3:(bl {data:=#[58]}).length=1:=rfl;simp only [List.length_append];omega
theorem press_any (s:ByteArray) (w:World) (hs:s.size≤1073741824) (ht:PowTab w):
  Calls Tryz.prog 75 #[.string s] w fun e w'=>∃t:ByteArray,e=.returned (.string t)∧Hid (bl t=pressL (bl s))∧Below w.heap.size w w':=by
 go_enter Tryz.func75,Tryz.ntmps75;go_wp2_with fail;have hI:=isB_new w w.heap.size (Nat.le_refl _);have hb0:Below w.heap.size w (w.alloc (.cells #[.pointer none,.slice none 0 0] 118)):=(Below.refl _ _).alloc (Nat.le_refl _) _;generalize w.alloc (.cells #[.pointer none,.slice none 0 0] 118)=W at hI hb0⊢;go_loopw [4] (fun i wr=>∃(k:Nat) (acc:List UInt8),k≤s.size∧i=.int .i64 k∧Hid (acc++pressL ((bl s).drop k)=pressL (bl s))∧acc.length≤23*k∧IsB w.heap.size w.heap.size (Lib.byteCells acc) wr∧Below w.heap.size w wr) (fun i _=>s.size- (intOf i).toNat)
 case atStart=>exact ⟨0,[],Nat.zero_le _,rfl,rfl,Nat.le_refl _,hI,hb0⟩
 case round=>
  obtain ⟨k,acc,hk,rfl,H,hlen,hB,hb⟩:=hrel;by_cases hlt:k<s.size
  ·go_wp2_with fail;obtain ⟨wo,rfl⟩:∃wo:World,wo=wr:=⟨_,rfl⟩;go_loopw [5] (fun j wi=>∃n:Nat,1≤n∧k+n≤s.size∧j=.int .i64 n∧Hid (((bl s).drop k).take n=List.replicate n s[k])∧Below wo.heap.size wo wi∧IsB w.heap.size w.heap.size (Lib.byteCells acc) wi) (fun j _=>s.size-k- (intOf j).toNat)
   case atStart=>exact ⟨1,Nat.le_refl _,by omega,rfl,by rw [drop_cons s k hlt];rfl,Below.refl _ _,hB⟩
   case round=>
    obtain ⟨n,hn1,hkn,rfl,HR,hbi,hBi⟩:=hrel;by_cases hcont:∃h:k+n<s.size,s[k+n]=s[k]
    ·obtain ⟨hkn2,heq⟩:=hcont;have HR2:Hid (((bl s).drop k).take (n+1)=List.replicate (n+1) s[k]):=by
      have hd:((bl s).drop k)[n]? =some s[k]:=by
       rw [List.getElem?_drop,List.getElem?_eq_getElem (by rw [bl_length];exact hkn2),←heq];rfl
      have h1:=HR.out;show ((bl s).drop k).take (n+1)=_;rw [List.take_add_one,h1,hd,List.replicate_succ'];rfl
     have e1:IntKind.i64.wrap ((k:Int)+n)=(k:Int)+n:=IntWalk.i64_in _ (by omega);have e3:∀W:World,(Instr.index 9 (.string s) (.int .i64 ((k:Int)+n))).run Tryz.prog W=.ok (.int .u8 s[k+n].toNat) W:=index_sum s k n hkn2;have d1:decide ((k:Int)+n<s.size)=true:=by simp;omega
     have hc:((s[k+n].toNat:Int)==s[k].toNat)=true:=by rw [heq];simp
     go_wp2_with fail;go_quiet (fail);clear e1 e3 hc;go_wp2_with fail;go_roundw
     case rel=>exact ⟨n+1,by omega,by omega,by go_num,HR2,hbi.trans (below_drewN _ _ _),isB_drewN hBi _⟩
     case measure=>simp [intOf];omega
    ·have hrest:((bl s).drop (k+n)).head?≠some s[k]:=by
      intro h;by_cases hkn2:k+n<s.size
      ·rw [drop_cons s _ hkn2] at h;exact hcont ⟨hkn2,by simpa using h⟩
      ·rw [drop_nil s _ (by omega)] at h;cases h
     have hsplit:(bl s).drop k=List.replicate n s[k]++(bl s).drop (k+n):=by
      rw [←HR.out,←List.drop_drop,List.take_append_drop]
     have hpress:pressL ((bl s).drop k)=runText (n,s[k])++pressL ((bl s).drop (k+n)):=by
      rw [hsplit];exact pressL_run _ _ n hn1 hrest
     have hone:=bl_one s k hlt;have hrl:=runText_len n s[k] (by omega);have HP:=Lib.hid hpress;have HO:=Lib.hid hone;have hB2:=hb.trans (hbi.mono hb.size);have hT:=ht.ext hB2;clear hrest hsplit hpress hone HR;have e1:IntKind.i64.wrap ((k:Int)+n)=(k:Int)+n:=IntWalk.i64_in _ (by omega);by_cases hkn2:k+n<s.size
     ·have e3:∀W:World,(Instr.index 9 (.string s) (.int .i64 ((k:Int)+n))).run Tryz.prog W=.ok (.int .u8 s[k+n].toNat) W:=index_sum s k n hkn2;have d1:decide ((k:Int)+n<s.size)=true:=by simp;omega
      have hc:((s[k+n].toNat:Int)==s[k].toNat)=false:=by
       rw [beq_eq_false_iff_ne];intro h;exact hcont ⟨hkn2,UInt8.toNat_inj.1 (by omega)⟩
      clear hcont;go_wp2_with fail;go_quiet (fail);clear e1 e3 hc;go_wp2_with fail;have sl:∀W:World,(Instr.slice 9 (.string s) (some (.int .i64 (k:Int))) (some (.int .i64 ((k:Int)+1))) none).run Tryz.prog W=.ok (.string (s.extract k (k+1))) W:=slice_nat s _ _ k (k+1) (by omega) (by omega) rfl (by omega);have ek:IntKind.i64.wrap ((k:Int)+1)=(k:Int)+1:=IntWalk.i64_in _ (by omega);go_region_with (first
       |(go_at_call 79;refine (itoa_any n (by omega) _ (by exact hT)).mono ?_;rintro e w2 ⟨t,rfl,HTX,hts,hb2⟩)
       |(go_at_call 70;refine (writeString_any _ _ _ _ _ (isB_below hb2 (by exact hBi)) (wlen acc t s k hlen hts (by omega) hs) (Nat.le_trans hB2.size (by exact hb2.size))).mono ?_;rintro e w3 ⟨rfl,hB3,hb3⟩))
      clear sl ek;have hcells:Lib.byteCells acc++Lib.strCells (t++{data:=#[58]}++s.extract k (k+1))=Lib.byteCells (acc++runText (n,s[k])):=by
       rw [strCells_bl,bl_append,bl_append,HTX.out,HO.out,show bl {data:=#[58]}=[58] from rfl,←byteCells_append];simp [runText]
      have hB4:IsB w.heap.size w.heap.size (Lib.byteCells (acc++runText (n,s[k]))) w3:=by rw [←hcells];exact .inr hB3
      have hW3:Below w.heap.size w w3:=hB2.trans (((below_drewN _ _ _).trans (hb2.mono (by exact hB2.size))).trans hb3);have H2:Hid ((acc++runText (n,s[k]))++pressL ((bl s).drop (k+n))=pressL (bl s)):=by
       show _=_;rw [List.append_assoc,←HP.out];exact H.out
      have hl2:(acc++runText (n,s[k])).length≤23*(k+n):=by rw [List.length_append];omega
      clear hcells hB3 hb3 hb2 H HP HO;go_wp2_with fail;go_roundw
      case rel=>exact ⟨k+n,acc++runText (n,s[k]),by omega,by go_num,H2,hl2,hB4,hW3⟩
      case measure=>simp [intOf];omega
     ·have d1:decide ((k:Int)+n<s.size)=false:=by simp;omega
      clear hcont;go_wp2_with fail;go_quiet (fail);clear e1;go_wp2_with fail;have sl:∀W:World,(Instr.slice 9 (.string s) (some (.int .i64 (k:Int))) (some (.int .i64 ((k:Int)+1))) none).run Tryz.prog W=.ok (.string (s.extract k (k+1))) W:=slice_nat s _ _ k (k+1) (by omega) (by omega) rfl (by omega);have ek:IntKind.i64.wrap ((k:Int)+1)=(k:Int)+1:=IntWalk.i64_in _ (by omega);go_region_with (first
       |(go_at_call 79;refine (itoa_any n (by omega) _ (by exact hT)).mono ?_;rintro e w2 ⟨t,rfl,HTX,hts,hb2⟩)
       |(go_at_call 70;refine (writeString_any _ _ _ _ _ (isB_below hb2 (by exact hBi)) (wlen acc t s k hlen hts (by omega) hs) (Nat.le_trans hB2.size (by exact hb2.size))).mono ?_;rintro e w3 ⟨rfl,hB3,hb3⟩))
      clear sl ek;have hcells:Lib.byteCells acc++Lib.strCells (t++{data:=#[58]}++s.extract k (k+1))=Lib.byteCells (acc++runText (n,s[k])):=by
       rw [strCells_bl,bl_append,bl_append,HTX.out,HO.out,show bl {data:=#[58]}=[58] from rfl,←byteCells_append];simp [runText]
      have hB4:IsB w.heap.size w.heap.size (Lib.byteCells (acc++runText (n,s[k]))) w3:=by rw [←hcells];exact .inr hB3
      have hW3:Below w.heap.size w w3:=hB2.trans (((below_drewN _ _ _).trans (hb2.mono (by exact hB2.size))).trans hb3);have H2:Hid ((acc++runText (n,s[k]))++pressL ((bl s).drop (k+n))=pressL (bl s)):=by
       show _=_;rw [List.append_assoc,←HP.out];exact H.out
      have hl2:(acc++runText (n,s[k])).length≤23*(k+n):=by rw [List.length_append];omega
      clear hcells hB3 hb3 hb2 H HP HO;go_wp2_with fail;go_roundw
      case rel=>exact ⟨k+n,acc++runText (n,s[k]),by omega,by go_num,H2,hl2,hB4,hW3⟩
      case measure=>simp [intOf];omega
  ·have e:pressL ((bl s).drop k)=[]:=by rw [drop_nil s k (by omega)];rfl
   have HE:Hid (acc=pressL (bl s)):=by have:=H.out;rw [e,List.append_nil] at this;exact this
   clear e H;go_wp2_with fail;refine (Tryz.Builder_String_any _ _ acc _ hB hb.size).mono ?_;rintro e w' ⟨rfl,hb'⟩;have hfin:Below w.heap.size w w':=hb.trans hb';clear hb' hB hb;go_wp2_with fail;go_ret;exact ⟨⟨acc.toArray⟩,rfl,HE.out,hfin⟩
theorem pend_same (s:ByteArray) (k n:Nat) (h:k+1<s.size) (he:s[k+1]=s[k]'(by omega)):
  List.replicate n (s[k]'(by omega))++(bl s).drop k=List.replicate (n+1) (s[k+1])++(bl s).drop (k+1):=by
 rw [drop_cons s k (by omega),List.replicate_succ',he];simp
theorem pend_out (s:ByteArray) (k n:Nat) (h:k<s.size) (hr:((bl s).drop (k+1)).head?≠some s[k]):
  pressL (List.replicate n s[k]++(bl s).drop k)=runText (n+1,s[k])++pressL ((bl s).drop (k+1)):=by
 rw [drop_cons s k h,←pressL_run s[k] _ (n+1) (by omega) hr,List.replicate_succ'];simp
def PInv (s:ByteArray) (k n:Nat) (o:List UInt8):Prop:=
 if h:k<s.size then o++pressL (List.replicate n s[k]++(bl s).drop k)=pressL (bl s) else n=0∧o=pressL (bl s)
theorem PInv.start (s:ByteArray):PInv s 0 0 []:=by
 unfold PInv;split
 ·simp
 ·rename_i h;have:bl s=[]:=List.eq_nil_of_length_eq_zero (by rw [bl_length];omega);rw [this];exact ⟨rfl,rfl⟩
theorem PInv.same {s:ByteArray} {k n:Nat} {o:List UInt8} (hI:PInv s k n o) (h:k+1<s.size) (he:s[k+1]=s[k]'(by omega)):PInv s (k+1) (n+1) o:=by
 unfold PInv at hI⊢;rw [dif_pos (by omega)] at hI;rw [dif_pos h,←pend_same s k n h he];exact hI
theorem PInv.out {s:ByteArray} {k n:Nat} {o:List UInt8} (hI:PInv s k n o) (h:k<s.size) (hr:((bl s).drop (k+1)).head?≠some s[k]):PInv s (k+1) 0 (o++runText (n+1,s[k])):=by
 unfold PInv at hI⊢;rw [dif_pos h,pend_out s k n h hr,←List.append_assoc] at hI;split
 ·simpa using hI
 ·rename_i h2;rw [drop_nil s (k+1) (by omega)] at hI;exact ⟨rfl,by simpa [pressL,grp] using hI⟩
theorem PInv.end {s:ByteArray} {n:Nat} {k:Nat} {o:List UInt8} (hI:PInv s k n o) (h:¬k<s.size):o=pressL (bl s):=by
 unfold PInv at hI;rw [dif_neg h] at hI;exact hI.2
theorem IsErr.other {E:Nat→Addr} {w W:World} {v:Value} {er:Er} {B:Nat} {k:IntKind} {x:Int} (h:IsErr E w v er) (hB:w.cell? ⟨B,1,none⟩=some (.int k x)) (hk:∀q,q≠B→W.heap[q]? =w.heap[q]?):IsErr E W v er:=by
 rcases h with h|h|⟨j,a,b,hj,h1,h2,h3,h4⟩
 ·exact .inl h
 ·exact .inr (.inl h)
 ·have hb:b≠B:=by
   rintro rfl;rw [hB] at h4;simp at h4
  exact .inr (.inr ⟨j,a,b,hj,h1,h2,by rw [World.cell?_of_block (w:=w) (a:=⟨b,0,none⟩) (hk b hb)];exact h3,by rw [World.cell?_of_block (w:=w) (a:=⟨b,1,none⟩) (hk b hb)];exact h4⟩)
theorem grp_sum:∀l,sumR (grp l)=l.length∧openR (grp l)=l∧∀r∈grp l,0<r.1
 | []=>⟨rfl,rfl,fun r h=>by cases h⟩
 |c::cs=>by
  obtain ⟨h1,h2,h3⟩:=grp_sum cs;simp only [grp]
  cases h:grp cs with
  |nil=>
   rw [h] at h1 h2;simp [sumR] at h1;refine ⟨?_,?_,?_⟩
   ·simp [sumR,←h1]
   ·simp [openR] at h2⊢;exact h2
   ·intro r hr;simp at hr;subst hr;exact Nat.one_pos
  |cons q r=>
   obtain ⟨n,d⟩:=q;rw [h] at h1 h2 h3;simp only;split
   ·rename_i e;subst e;refine ⟨?_,?_,?_⟩
    ·rw [sumR_cons] at h1⊢;simp only [List.length_cons] at*;omega
    ·rw [←h2];simp [openR,List.replicate_succ]
    ·intro x hx;rcases List.mem_cons.1 hx with rfl|hx
     ·exact Nat.succ_pos _
     ·exact h3 x (by simp [hx])
   ·refine ⟨?_,?_,?_⟩
    ·rw [sumR_cons,h1];simp only [List.length_cons];omega
    ·conv=>rhs;rw [←h2]
     simp [openR]
    ·intro x hx;rcases List.mem_cons.1 hx with rfl|hx
     ·exact Nat.one_pos
     ·exact h3 x hx
theorem sumR_mem {l:List (Nat×UInt8)} {r:Nat×UInt8} (h:r∈l):r.1≤sumR l:=by
 induction l with
 |nil=>cases h
 |cons a l ih=>
  rw [sumR_cons];rcases List.mem_cons.1 h with rfl|h
  ·omega
  ·have:=ih h;omega
theorem grp_fine (l:List UInt8) (hl:l.length<1000000000):∀r∈grp l,0<r.1∧r.1<1000000000:=fun r hr=>
 ⟨(grp_sum l).2.2 r hr,by have:=sumR_mem hr;have:=(grp_sum l).1;omega⟩
theorem grp_len (l:List UInt8):(grp l).length≤l.length:=by
 have h:=grp_sum l;have key:∀R:List (Nat×UInt8),(∀r∈R,0<r.1)→R.length≤sumR R:=by
  intro R;induction R with
  |nil=>intro _;exact Nat.zero_le _
  |cons a R ih=>
   intro hR;have h1:=ih (fun r hr=>hR r (by simp [hr]));have h2:=hR a (by simp);rw [sumR_cons,List.length_cons];omega
 have:=key _ h.2.2;omega
theorem pressL_len (l:List UInt8) (hl:l.length<1000000000):(pressL l).length≤23*l.length:=by
 have hf:=grp_fine l (by omega);have key:∀R:List (Nat×UInt8),(∀r∈R,0<r.1∧r.1<1000000000)→(R.flatMap runText).length≤23*R.length:=by
  intro R;induction R with
  |nil=>intro _;exact Nat.le_refl _
  |cons a R ih=>
   intro hR;have h1:=ih (fun r hr=>hR r (by simp [hr]));have h2:=runText_len a.1 a.2 (by have:=(hR a (by simp)).2;omega);rw [List.flatMap_cons,List.length_append,List.length_cons];have h3:(runText a).length≤23:=h2;omega
 have h1:=key _ hf;have h2:=grp_len l;show ((grp l).flatMap runText).length≤_;omega
end Go.Proofs.YtaabgmbjmfjdjaaGreatDoor
