import Derived.Test.YtaabgmbjmfjdjaaGreatDoorJParsedEtc
import Derived.Test.YtaabgmbjmfjdjaaGreatDoorJRefLinkUp
import Derived.Test.YtaabgmbjmfjdjaaGreatDoorJPackReads
import Derived.Test.YtaabgmbjmfjdjaaGreatDoorJSummed
import Derived.Test.YtaabgmbjmfjdjaaGreatDoorJPackedUpEtc
import Derived.Lib.SliceRun
import Derived.Test.YtaabgmbjmfjdjaaGreatDoorJPressedUpEtc
import Derived.Test.YtaabgmbjmfjdjaaGreatDoorJTreeLoops
import Derived.BigQuiet
import Derived.Laws.OwnMore
import Derived.Test.YtaabgmbjmfjdjaaGreatDoorJTreePlains
namespace Go.Proofs.YtaabgmbjmfjdjaaGreatDoor
open Go Go.RowKit
set_option maxHeartbeats 4000000
set_option maxRecDepth 100000
def wV (x:WantB):Value:= .agg #[.string x.name,.string x.url,.string x.kind,.int .i64 x.strip,.int .i64 x.sum]
def WBox (w:World) (p:Nat) (x:WantB):Prop:=w.heap[p]? =some (.cells #[.string x.name,.string x.url,.string x.kind,.int .i64 x.strip,.int .i64 x.sum] 134 (0,0))
theorem WBox.ext {w w':World} {p:Nat} {x:WantB} (h:WBox w p x) (hb:Below w.heap.size w w'):WBox w' p x:=(hb.block p (Array.getElem?_eq_some_iff.1 h).1).trans h
theorem WBox.lt {w:World} {p:Nat} {x:WantB} (h:WBox w p x):p<w.heap.size:=(Array.getElem?_eq_some_iff.1 h).1
theorem WBox.cells {w:World} {p:Nat} {x:WantB} (h:WBox w p x):w.cell? ⟨p,0,none⟩=some (.string x.name)∧w.cell? ⟨p,1,none⟩=some (.string x.url)∧w.cell? ⟨p,2,none⟩=some (.string x.kind)∧w.cell? ⟨p,3,none⟩=some (.int .i64 x.strip)∧w.cell? ⟨p,4,none⟩=some (.int .i64 x.sum):=
 ⟨by rw [Lib.cell_of_heap h];rfl,by rw [Lib.cell_of_heap h];rfl,by rw [Lib.cell_of_heap h];rfl,by rw [Lib.cell_of_heap h];rfl,by rw [Lib.cell_of_heap h];rfl⟩
theorem WBox.new (w:World) (x:WantB):WBox (w.alloc (.cells #[.string x.name,.string x.url,.string x.kind,.int .i64 x.strip,.int .i64 x.sum] 134)) w.heap.size x:=heap_alloc_new w _
theorem WBox.froz {w:World} {p:Nat} {x:WantB} (h:WBox w p x):w.frozen? ⟨p,0,none⟩=false∧w.frozen? ⟨p,1,none⟩=false∧w.frozen? ⟨p,2,none⟩=false∧w.frozen? ⟨p,3,none⟩=false∧w.frozen? ⟨p,4,none⟩=false:=
 ⟨Lib.frozen_of_heap h 0,Lib.frozen_of_heap h 1,Lib.frozen_of_heap h 2,Lib.frozen_of_heap h 3,Lib.frozen_of_heap h 4⟩
def wPut (w:World) (p:Nat) (y:WantB):World:=((((w.setCell ⟨p,0,none⟩ (.string y.name)).setCell ⟨p,1,none⟩ (.string y.url)).setCell ⟨p,2,none⟩ (.string y.kind)).setCell ⟨p,3,none⟩ (.int .i64 y.strip)).setCell ⟨p,4,none⟩ (.int .i64 y.sum)
theorem WBox.store {w:World} {p:Nat} {x:WantB} (h:WBox w p x) (y:WantB):WBox (wPut w p y) p y:=by
 unfold WBox at h;unfold WBox wPut;simp [World.setCell,Array.getElem?_modify,h]
theorem below_wPut (w:World) {p B:Nat} (y:WantB) (h:B≤p):Below B w (wPut w p y):=
 (((((Below.refl B w).setCell (p:=⟨p,0,none⟩) h _).setCell (p:=⟨p,1,none⟩) h _).setCell (p:=⟨p,2,none⟩) h _).setCell (p:=⟨p,3,none⟩) h _).setCell (p:=⟨p,4,none⟩) h _
theorem Tryz.infoWant:(Tryz.prog.info? 134).map (fun i=>(i.zero,i.size,i.bytes))=some (some (.agg #[.string ⟨#[]⟩,.string ⟨#[]⟩,.string ⟨#[]⟩,.int .i64 0,.int .i64 0]),5,64):=by kernel_rfl
def wkindsB:List ByteArray:=[⟨#[112,108,97,105,110]⟩,⟨#[112,97,99,107]⟩,⟨#[112,114,101,115,115]⟩]
theorem wkindsB_has (k:ByteArray):Lib.containsS (wkindsB.take 3) k=wkinds.contains (bl k):=by
 rw [Bool.eq_iff_iff,Lib.containsS_iff,List.contains_iff_mem];constructor
 ·intro h;exact List.mem_map.2 ⟨k,h,rfl⟩
 ·intro h;have h2:bl k∈wkindsB.map bl:=h;obtain ⟨z,hz,e⟩:=List.mem_map.1 h2;rw [←blInj e];exact hz
theorem wkinds_any (k:ByteArray) (w:World):Calls Tryz.prog 181 #[.slice (some ⟨w.heap.size,0,none⟩) 3 3,.string k]
  (w.alloc (.cells #[.string ⟨#[112,108,97,105,110]⟩,.string ⟨#[112,97,99,107]⟩,.string ⟨#[112,114,101,115,115]⟩] 9)) fun e w'=>e=.returned (.bool (wkinds.contains (bl k)))∧Below w.heap.size w w':=by
 refine (Tryz.slices_Contains_string w.heap.size 0 3 3 wkindsB k _ (Nat.le_refl 3) (by decide) ?_).mono ?_
 ·intro j hj;rw [World.cell?_alloc_at _ _ _ _ rfl];have h3:j<3:=hj;have:j=0∨j=1∨j=2:=by omega
  rcases this with rfl|rfl|rfl<;>rfl
 ·rintro e w' ⟨rfl,rfl⟩;exact ⟨by rw [wkindsB_has],(Below.refl _ w).alloc (Nat.le_refl _) _⟩
section
variable {x:WantB}
theorem wantE_name (h:partB (bl x.name)=false):wantE x=5:=by unfold wantE;rw [if_pos h]
theorem wantE_url {c:Nat} (h:partB (bl x.name)=true) (h2:linkE (bl x.url)=c+1):wantE x=c+1:=by unfold wantE;rw [if_neg (by rw [h];simp),if_pos (by omega),h2]
theorem wantE_from (h:partB (bl x.name)=true) (h2:linkE (bl x.url)=0):wantE x=if wkinds.contains (bl x.kind)=false then 4 else if x.strip<0∨6<x.strip then 2 else if bl x.kind=kPlain∧x.strip≠0 then 3 else if rightB x.sum=false then 2 else 0:=by
 unfold wantE;rw [if_neg (by rw [h];simp),if_neg (by omega)]
end
theorem kind_eqb (k:ByteArray):(k.toList== [112,108,97,105,110])=decide (bl k=kPlain):=by rw [toList_bl,Bool.eq_iff_iff,beq_iff_eq,decide_eq_true_iff];rfl
theorem kind_eqb2 (k:ByteArray):(k.toList== [112,97,99,107])=decide (bl k=kPack):=by rw [toList_bl,Bool.eq_iff_iff,beq_iff_eq,decide_eq_true_iff];rfl
theorem kind_eqb3 (k:ByteArray):(k.toList== [112,114,101,115,115])=decide (bl k=kPress):=by rw [toList_bl,Bool.eq_iff_iff,beq_iff_eq,decide_eq_true_iff];rfl
theorem wantCheck_any {E:Nat→Addr} (x:WantB) (w:World) (hn:x.name.size≤1000000) (hu:x.url.size≤1000000) (hE:FEnv E w):
  Calls Tryz.prog 155 #[.agg #[.string x.name,.string x.url,.string x.kind,.int .i64 x.strip,.int .i64 x.sum]] w fun e w'=>e=.returned (errV E (wantE x))∧Below w.heap.size w w':=by
 obtain ⟨px,hpx⟩:∃px,w.heap.size=px:=⟨_,rfl⟩;obtain ⟨wx,hwx⟩:∃wx,w.alloc (.cells #[.string x.name,.string x.url,.string x.kind,.int .i64 x.strip,.int .i64 x.sum] 134)=wx:=⟨_,rfl⟩;have hbx:Below w.heap.size w wx:=by rw [←hwx];exact (Below.refl _ _).alloc (Nat.le_refl _) _
 have BX:=Lib.hid (show WBox wx px x by rw [←hwx,←hpx];exact WBox.new w x);have HB:=Lib.hid hbx;have HE:=Lib.hid hE;have HWX:=Lib.hid hwx;have HPX:=Lib.hid hpx;have K1:=Lib.hid (@wantE_name x);have K2:=Lib.hid (fun c=>@wantE_url x c);have K3:=Lib.hid (@wantE_from x);obtain ⟨c0,_,_,_,_⟩:=BX.out.cells;clear hpx hwx hbx hE;go_enter Tryz.func155,Tryz.ntmps155;go_upto_region 1 with fail
 rw [HWX.out,HPX.out];go_wp2_with fail;refine (part_any x.name wx (by omega)).mono ?_;rintro e w1 ⟨rfl,hb1⟩;have B1:=Lib.hid (HB.out.trans (hb1.mono HB.out.size));have BX1:=Lib.hid (BX.out.ext hb1);clear hb1 c0
 cases hp:partB (bl x.name) with
 |false=>
  have HX:=Lib.hid (K1.out hp);have c4:=(HE.out.ext B1.out).2.name;clear hp;go_wp2_with fail;go_ret;exact ⟨by rw [HX.out];rfl,B1.out⟩
 |true=>
  obtain ⟨_,c1,_,_,_⟩:=BX1.out.cells;have HL:=Lib.hid (linkCheck_any x.url w1 (by omega) ⟨(HE.out.ext B1.out).2,(HE.out.ext B1.out).1.eText,(HE.out.ext B1.out).1.eKind,(HE.out.ext B1.out).1.eNone⟩);have HP:=Lib.hid hp;clear hp;go_wp2_with fail;refine HL.out.mono ?_;clear HL;rintro e w2 ⟨rfl,hb2⟩;have B2:=Lib.hid (B1.out.trans (hb2.mono B1.out.size));have BX2:=Lib.hid (BX1.out.ext hb2);clear hb2 c1
  cases hl:linkE (bl x.url) with
  |succ c=>
   have HX:=Lib.hid (K2.out c HP.out hl);rw [show errV E (c+1)=sentV E c from rfl];clear hl;go_wp2_with fail;go_ret;exact ⟨by rw [HX.out];rfl,B2.out⟩
  |zero=>
   have HX:=Lib.hid (K3.out HP.out hl);rw [show errV E 0=.nilIface from rfl];obtain ⟨_,_,c2',_,_⟩:=BX2.out.cells;have c2:=Lib.cell?_alloc_some (.cells #[.string ⟨#[112,108,97,105,110]⟩,.string ⟨#[112,97,99,107]⟩,.string ⟨#[112,114,101,115,115]⟩] 9) c2';have HK:=Lib.hid (wkinds_any x.kind w2);clear hl K1 K2 K3;go_wp2_with fail;refine HK.out.mono ?_;clear HK;rintro e w3 ⟨rfl,hb3⟩;have B3:=Lib.hid (B2.out.trans (hb3.mono B2.out.size));have BX3:=Lib.hid (BX2.out.ext hb3);obtain ⟨_,_,d2,d3,d4⟩:=BX3.out.cells;have c4:=(HE.out.ext B3.out).1.eKind;have c5:=(HE.out.ext B3.out).1.eBound;have c6:=(HE.out.ext B3.out).1.eShape;clear hb3 c2 c2'
   cases hk:wkinds.contains (bl x.kind) with
   |false=>
    have HY:Hid (wantE x=4):=by show _=_;rw [HX.out,if_pos hk]
    clear hk;go_wp2_with fail;go_ret;exact ⟨by rw [HY.out];rfl,B3.out⟩
   |true=>
    have HY:=HX.out;rw [if_neg (by rw [hk];simp)] at HY;have HX2:=Lib.hid HY;clear hk HY HX;by_cases h0:x.strip<0
    ·have HZ:Hid (wantE x=2):=by show _=_;rw [HX2.out,if_pos (.inl h0)]
     go_wp2_with fail;go_ret;exact ⟨by rw [HZ.out];rfl,B3.out⟩
    ·by_cases h6:6<x.strip
     ·have HZ:Hid (wantE x=2):=by show _=_;rw [HX2.out,if_pos (.inr h6)]
      go_wp2_with fail;go_ret;exact ⟨by rw [HZ.out];rfl,B3.out⟩
     ·have HY:=HX2.out;rw [if_neg (by omega)] at HY;have HX3:=Lib.hid HY;clear HY HX2;have HS:=Lib.hid (⟨h0,h6⟩:¬x.strip<0∧¬6<x.strip);have q:=kind_eqb x.kind;by_cases hkp:bl x.kind=kPlain
      ·rw [decide_eq_true hkp] at q;by_cases hs0:x.strip=0
       ·have HY:Hid (wantE x=if rightB x.sum=false then 2 else 0):=by show _=_;rw [HX3.out,if_neg (fun e=>e.2 hs0)]
        have q0:(x.strip==0)=true:=by rw [hs0];rfl
        clear hkp hs0 HX3;go_wp2_with fail;refine (right_any _ _).mono ?_;rintro e w4 ⟨rfl,rfl⟩
        cases hr:rightB x.sum with
        |false=>
         have HZ:Hid (wantE x=2):=by show _=_;rw [HY.out,if_pos hr]
         clear hr;go_wp2_with fail;go_ret;exact ⟨by rw [HZ.out];rfl,B3.out⟩
        |true=>
         have HZ:Hid (wantE x=0):=by show _=_;rw [HY.out,if_neg (by rw [hr];simp)]
         clear hr;go_wp2_with fail;go_ret;exact ⟨by rw [HZ.out];rfl,B3.out⟩
       ·have HZ:Hid (wantE x=3):=by show _=_;rw [HX3.out,if_pos ⟨hkp,hs0⟩]
        have q0:(x.strip==0)=false:=beq_eq_false_iff_ne.2 hs0;clear hkp hs0 HX3;go_wp2_with fail;go_ret;exact ⟨by rw [HZ.out];rfl,B3.out⟩
      ·rw [decide_eq_false hkp] at q;have HY:Hid (wantE x=if rightB x.sum=false then 2 else 0):=by show _=_;rw [HX3.out,if_neg (fun e=>hkp e.1)]
       clear hkp HX3;go_wp2_with fail;refine (right_any _ _).mono ?_;rintro e w4 ⟨rfl,rfl⟩
       cases hr:rightB x.sum with
       |false=>
        have HZ:Hid (wantE x=2):=by show _=_;rw [HY.out,if_pos hr]
        clear hr;go_wp2_with fail;go_ret;exact ⟨by rw [HZ.out];rfl,B3.out⟩
       |true=>
        have HZ:Hid (wantE x=0):=by show _=_;rw [HY.out,if_neg (by rw [hr];simp)]
        clear hr;go_wp2_with fail;go_ret;exact ⟨by rw [HZ.out];rfl,B3.out⟩
theorem five_len {a b c d e:List UInt8} {n:Nat} (h1:a.length≤n) (h2:b.length≤n) (h3:c.length≤n) (h4:d.length≤n) (h5:e.length≤n):([32].intercalate [a,b,c,d,e]:List UInt8).length≤5*n+4:=by
 rw [join_cons,join_cons,join_cons,join_cons];simp [List.intercalate,List.length_append];omega
theorem join5_any (a b c d e:ByteArray) (W:World) (h1:a.size≤1000000) (h2:b.size≤1000000) (h3:c.size≤1000000) (h4:d.size≤1000000) (h5:e.size≤1000000):
  Calls Tryz.prog 34 #[.slice (some ⟨W.heap.size,0,none⟩) 5 5,.string ⟨#[32]⟩] (W.alloc (.cells #[.string a,.string b,.string c,.string d,.string e] 9)) fun r w'=>
   (∃t:ByteArray,r=.returned (.string t)∧Hid (bl t=bl a++32::(bl b++32::(bl c++32::(bl d++32::bl e)))))∧Below W.heap.size W w':=by
 have hcs:∀(j:Nat) x,([a,b,c,d,e]:List ByteArray)[j]? =some x→(W.alloc (.cells #[.string a,.string b,.string c,.string d,.string e] 9)).cell? ⟨W.heap.size,0+j,none⟩=some (.string x):=by
  intro j x hx;have hj:j<5:=by
   have:=(List.getElem?_eq_some_iff.1 hx).1;simpa using this
  rw [Nat.zero_add,World.cell?_alloc_at _ _ _ _ rfl];have:j=0∨j=1∨j=2∨j=3∨j=4:=by omega
  rcases this with rfl|rfl|rfl|rfl|rfl<;>(simp at hx;subst hx;rfl)
 refine (Tryz.strings_Join W.heap.size 0 5 [a,b,c,d,e] ⟨#[32]⟩ _ hcs (by simp) (by simp) (by simp) ?_).mono ?_
 ·have:=five_len (a:=bl a) (b:=bl b) (c:=bl c) (d:=bl d) (e:=bl e) (n:=1000000) (by rw [bl_length];exact h1) (by rw [bl_length];exact h2) (by rw [bl_length];exact h3) (by rw [bl_length];exact h4) (by rw [bl_length];exact h5);exact Nat.le_trans this (by decide)
 ·rintro r w' ⟨rfl,hb⟩;refine ⟨⟨_,rfl,?_⟩,((Below.refl _ W).alloc (Nat.le_refl _) _).trans (hb.mono (by simp))⟩;show ([32].intercalate [bl a,bl b,bl c,bl d,bl e]:List UInt8)=_;rw [join_cons,join_cons,join_cons,join_cons];simp [List.intercalate]
def TextPost (x:WantB) (w:World) (e:Ending) (w':World):Prop:=(∃t:ByteArray,e=.returned (.string t)∧Hid (bl t=wantTx x))∧Below w.heap.size w w'
theorem wantTx_not {x:WantB} {c:Nat} (h:wantE x=c+1):wantTx x=[]:=by unfold wantTx;rw [if_pos (by omega)]
theorem wantTx_is {x:WantB} (h:wantE x=0):wantTx x=bl x.name++32::(bl x.url++32::(bl x.kind++32::(Lib.decDigits x.strip.toNat++32::115::Lib.decDigits x.sum.toNat))):=by unfold wantTx;rw [if_neg (by omega)]
theorem want_nums {x:WantB} (h:wantE x=0):0≤x.strip∧x.strip≤6∧0≤x.sum∧x.sum<1000000007:=by
 unfold wantE at h;split at h
 ·cases h
 split at h
 ·rename_i h2;exact absurd h h2
 split at h
 ·cases h
 split at h
 ·cases h
 rename_i h4;split at h
 ·cases h
 split at h
 ·cases h
 rename_i h6;unfold rightB at h6;simp only [Bool.not_eq_false,Bool.and_eq_true,decide_eq_true_eq] at h6;omega
theorem wantText_any {E:Nat→Addr} (x:WantB) (w:World) (hn:x.name.size≤1000000) (hu:x.url.size≤1000000) (hk:x.kind.size≤1000000) (hE:KEnv E w):
  Calls Tryz.prog 119 #[.agg #[.string x.name,.string x.url,.string x.kind,.int .i64 x.strip,.int .i64 x.sum]] w (TextPost x w):=by
 obtain ⟨px,hpx⟩:∃px,w.heap.size=px:=⟨_,rfl⟩;obtain ⟨wx,hwx⟩:∃wx,w.alloc (.cells #[.string x.name,.string x.url,.string x.kind,.int .i64 x.strip,.int .i64 x.sum] 134)=wx:=⟨_,rfl⟩;have hbx:Below w.heap.size w wx:=by rw [←hwx];exact (Below.refl _ _).alloc (Nat.le_refl _) _
 have BX:=Lib.hid (show WBox wx px x by rw [←hwx,←hpx];exact WBox.new w x);have HB:=Lib.hid hbx;have HE:=Lib.hid hE;have HWX:=Lib.hid hwx;have HPX:=Lib.hid hpx;obtain ⟨c0,c1,c2,c3,c4⟩:=BX.out.cells;have C:=Lib.hid (wantCheck_any x wx hn hu (hE.ext hbx).1);clear hpx hwx hbx hE;go_enter Tryz.func119,Tryz.ntmps119;go_upto_region 1 with fail
 rw [HWX.out,HPX.out];go_wp2_with fail;refine C.out.mono ?_;clear C;rintro e w1 ⟨rfl,hb1⟩;have B1:=Lib.hid (HB.out.trans (hb1.mono HB.out.size));have BX1:=Lib.hid (BX.out.ext hb1);clear hb1 c0 c1 c2 c3 c4
 cases hw:wantE x with
 |succ c=>
  have HX:=Lib.hid (wantTx_not hw);rw [show errV E (c+1)=sentV E c from rfl];clear hw;go_wp2_with fail;go_ret;exact ⟨⟨_,rfl,by show _=_;rw [HX.out];rfl⟩,B1.out⟩
 |zero=>
  have HX:=Lib.hid (wantTx_is hw);obtain ⟨n1,n2,n3,n4⟩:=want_nums hw;rw [show errV E 0=.nilIface from rfl];clear hw;obtain ⟨k,hkk⟩:∃k:Nat,x.strip=k:=⟨x.strip.toNat,by omega⟩;obtain ⟨m,hmm⟩:∃m:Nat,x.sum=m:=⟨x.sum.toNat,by omega⟩;have hk6:k≤6:=by omega
  have hm9:m<1000000007:=by omega
  have HX2:Hid (wantTx x=bl x.name++32::(bl x.url++32::(bl x.kind++32::(Lib.decDigits k++32::(115::Lib.decDigits m))))):=by show _=_;rw [HX.out,hkk,hmm];rfl
  have HI:Hid (∀W,Below w1.heap.size w1 W→Calls Tryz.prog 79 #[.int .i64 k] W fun e w'=>∃t:ByteArray,e=.returned (.string t)∧Hid (bl t=Lib.decDigits k)∧t.size≤1000000∧Below w1.heap.size w1 w'):=fun W hW=>by
   refine (itoa_any k (by omega) W ((HE.out.ext B1.out).2.ext hW)).mono ?_;rintro e w' ⟨t,rfl,h1,h2,h3⟩;exact ⟨t,rfl,h1,by omega,hW.trans (h3.mono hW.size)⟩
  have HT:Hid (∀W,Below w1.heap.size w1 W→Calls Tryz.prog 82 #[.int .i64 m] W fun e w'=>∃t:ByteArray,e=.returned (.string t)∧Hid (bl t=115::Lib.decDigits m)∧t.size≤1000000∧Below w1.heap.size w1 w'):=fun W hW=>by
   refine (sumText_ok m hm9 W ((HE.out.ext B1.out).2.ext hW)).mono ?_;rintro e w' ⟨t,rfl,h1,h2,h3⟩;exact ⟨t,rfl,h1,by omega,hW.trans (h3.mono hW.size)⟩
  have HJ:Hid (∀(d e:ByteArray) (W:World),d.size≤1000000→e.size≤1000000→Below w1.heap.size w1 W→Calls Tryz.prog 34 #[.slice (some ⟨W.heap.size,0,none⟩) 5 5,.string ⟨#[32]⟩] (W.alloc (.cells #[.string x.name,.string x.url,.string x.kind,.string d,.string e] 9)) fun r w'=>
   (∃t:ByteArray,r=.returned (.string t)∧Hid (bl t=bl x.name++32::(bl x.url++32::(bl x.kind++32::(bl d++32::bl e)))))∧Below w1.heap.size w1 w'):=fun d e W hd he hW=>by
   refine (join5_any x.name x.url x.kind d e W hn hu hk hd he).mono ?_;rintro r w' ⟨h,hb⟩;exact ⟨h,hW.trans (hb.mono hW.size)⟩
  have KEEP:Hid (∀W,Below w1.heap.size w1 W→W.cell? ⟨px,0,none⟩=some (.string x.name)∧W.cell? ⟨px,1,none⟩=some (.string x.url)∧W.cell? ⟨px,2,none⟩=some (.string x.kind)∧W.cell? ⟨px,3,none⟩=some (.int .i64 k)∧W.cell? ⟨px,4,none⟩=some (.int .i64 m)):=fun W hW=>by
   have:=(BX1.out.ext hW).cells;rw [hkk,hmm] at this;exact this
  obtain ⟨c0,c1,c2,c3,c4⟩:=KEEP.out w1 (Below.refl _ _);clear hkk hmm n1 n2 n3 n4 HX hk6 hm9;go_wp2_with fail;go_region_held3 (fun W:World=>W.cell? ⟨px,0,none⟩=some (.string x.name)∧W.cell? ⟨px,1,none⟩=some (.string x.url)∧W.cell? ⟨px,2,none⟩=some (.string x.kind)∧W.cell? ⟨px,3,none⟩=some (.int .i64 k)∧W.cell? ⟨px,4,none⟩=some (.int .i64 m)) (first|go_keep|exact KEEP.out _ hb5|exact KEEP.out _ hb6|exact KEEP.out _ (hb6.alloc hb6.size _)|exact KEEP.out _ hb7)
   (first
    |(go_at_call 79;refine (HI.out _ (by first|exact (Below.refl _ _).drew|exact hb6)).mono ?_;rintro e w5 ⟨t5,rfl,H5,hs5,hb5⟩)
    |(go_at_call 82;refine (HT.out _ (by first|exact hb5|exact (Below.refl _ _).drew)).mono ?_;rintro e w6 ⟨t6,rfl,H6,hs6,hb6⟩)
    |(go_at_call 34;refine (HJ.out t5 t6 _ hs5 hs6 (by first|exact hb6|exact hb5)).mono ?_;rintro e w7 ⟨⟨t7,rfl,H7⟩,hb7⟩))
  go_wp2_with fail;go_ret;exact ⟨⟨_,rfl,by show _=_;rw [HX2.out,H7.out,H5.out,H6.out]⟩,B1.out.trans (hb7.mono B1.out.size)⟩
theorem IsErr.none_inv {E:Nat→Addr} {w:World} {v:Value} {c:Nat} (h:IsErr E w v ⟨c,none⟩):v=errV E c:=by
 cases c with
 |zero=>exact h.nil_inv
 |succ k=>exact h.base_inv.2
theorem read_fine {s:List UInt8} (h:(readEr s).code=0):TreeOk (readT s):=(treeOk_iff _).1 (read_back h).1
theorem readT_bad {s:List UInt8} (h:(readEr s).code≠0):readT s=[]:=by
 by_cases h2:20000<s.length
 ·exact (readEr_big h2).2
 ·cases ha:allL s with
  |mk acc b=>
   cases b with
   |false=>exact (readEr_bad h2 ha).2
   |true=>
    have:=readEr_all h2 ha;rw [this.2,if_neg (by rw [←this.1];exact h)]
theorem unpackT_fine {s:List UInt8} (n:Int) (h:(readEr s).code=0):unpackT s n=((stripTr (readT s) n).1.code,(stripTr (readT s) n).2):=by unfold unpackT;rw [if_neg (by rw [h];simp)]
theorem unpackT_read {s:List UInt8} (n:Int) (h:(readEr s).code≠0):unpackT s n=((readEr s).code,[]):=by unfold unpackT;rw [if_pos h]
theorem IsErr.zero {E:Nat→Addr} {w:World} {v:Value} {er:Er} (h:IsErr E w v er) (h0:er.code=0):v=.nilIface:=
 IsErr.nil_inv (a:=er.at?) (by rw [show er=⟨er.code,er.at?⟩ from rfl,h0] at h;exact h)
def FGot (w:World) (b c:Nat) (v:Value) (l:List FileB):Prop:=FRow w v l∧(∀n k,v=.slice none n k→n=0∧k=0)∧(c=0→FOwn w b v l)
theorem FGot.arg {w:World} {b c:Nat} {v:Value} {l:List FileB} (h:FGot w b c v l):FArg w v l:=⟨h.1,h.2.1⟩
theorem FGot.of {w:World} {b c:Nat} {v:Value} {l:List FileB} (h:FOwn w b v l):FGot w b c v l:=⟨h.arg.1,h.arg.2,fun _=>h⟩
theorem FGot.bad {w:World} {b c:Nat} {v:Value} {l:List FileB} (h:FArg w v l) (hc:c≠0):FGot w b c v l:=⟨h.1,h.2,fun e=>absurd e hc⟩
theorem FGot.ext {w w':World} {b c:Nat} {v:Value} {l:List FileB} (h:FGot w b c v l) (hb:Below w.heap.size w w'):FGot w' b c v l:=⟨h.1.ext hb,h.2.1,fun e=>(h.2.2 e).ext hb⟩
theorem FGot.low {w:World} {b b2 c:Nat} {v:Value} {l:List FileB} (h:FGot w b c v l) (hb:b2≤b):FGot w b2 c v l:=⟨h.1,h.2.1,fun e=>FOwn.low (h.2.2 e) hb⟩
theorem one_own (W:World) (f:FileB):FOwn (W.alloc (.cells #[.string f.path,.bool f.run,.string f.text] 170)) W.heap.size (.slice (some ⟨W.heap.size,0,none⟩) 1 1) [f]:=
 World.ownsRow_lit W #[.string f.path,.bool f.run,.string f.text] 1 (Nat.le_refl _) (by decide) rfl
def WOpenPost (E:Nat→Addr) (r:Nat×List FileB) (w:World) (e:Ending) (w':World):Prop:=
 (∃v,e=.returned (.tuple #[v,errV E r.1])∧Hid (FGot w' w.heap.size r.1 v r.2))∧Below w.heap.size w w'
theorem WOpenPost.none {E:Nat→Addr} {r:Nat×List FileB} {w w':World} {c:Nat} (h:r=(c,[])) (hb:Below w.heap.size w w'):WOpenPost E r w (.returned (.tuple #[.slice none 0 0,errV E c])) w':=
 ⟨⟨_,by rw [h],by rw [h];exact FGot.of (FOwn.nil _ _)⟩,hb⟩
theorem WOpenPost.low {E:Nat→Addr} {r:Nat×List FileB} {w w1 w':World} {e:Ending} (h:WOpenPost E r w1 e w') (hb:Below w.heap.size w w1):WOpenPost E r w e w':=
 ⟨by obtain ⟨⟨v,he,hv⟩,_⟩:=h;exact ⟨v,he,hv.out.low hb.size⟩,hb.trans (h.2.mono hb.size)⟩
theorem unpacked_any {E:Nat→Addr} (s:ByteArray) (n:Int) (w:World) (hs:s.size≤1000000) (hn:(Lit.int .i64 n).wf=true) (hE:REnv E w):
  Calls Tryz.prog 257 #[.string s,.int .i64 n] w (WOpenPost E (unpackT (bl s) n) w):=by
 have HE:=Lib.hid hE;have HWF:=Lib.hid hn;have C:=Lib.hid (packRead_any s w hs hE);clear hE hn;go_enter Tryz.func257,Tryz.ntmps257;go_wp2_with fail;refine C.out.mono ?_;clear C;rintro e w1 ⟨⟨v,ev,rfl,HV,HI⟩,hb1⟩;have B1:=Lib.hid hb1;clear hb1;by_cases hz:(readEr (bl s)).code=0
 ·obtain rfl:ev=.nilIface:=HI.out.zero hz;have HX:=Lib.hid (unpackT_fine n hz);have ok:=read_fine hz;have C:=Lib.hid (treeStrip_any v (readT (bl s)) n w1 HV.out.1 (by have:=ok.few;omega) (fun f hf=>(ok.small f hf).1) HWF.out (HE.out.ext B1.out).1.1);clear hz HI ok;go_wp2_with fail;refine C.out.mono ?_;clear C;rintro e w2 ⟨⟨v2,ev2,rfl,HI2,HO2⟩,hb2⟩;have B2:=Lib.hid (B1.out.trans (hb2.mono B1.out.size));clear hb2;go_wp2_with fail;refine (treeBare_any _ ev2 w2 HI2.out).mono ?_;rintro e w3 ⟨⟨u,rfl,HU⟩,rfl⟩;obtain rfl:=HU.out.none_inv;go_wp2_with fail;go_ret2;exact ⟨⟨v2,by rw [HX.out];rfl,by rw [HX.out];exact FGot.of (FOwn.low HO2.out B1.out.size)⟩,B2.out⟩
 ·have HX:=Lib.hid (unpackT_read n hz);have HR:=Lib.hid (readT_bad hz);have HZ:=Lib.hid hz;obtain ⟨t,y,rfl⟩:=HI.out.some_inv hz;clear hz;go_wp2_with fail;refine (treeBare_any _ _ w1 HI.out).mono ?_;rintro e w3 ⟨⟨u,rfl,HU⟩,rfl⟩;obtain rfl:=HU.out.none_inv;go_wp2_with fail;go_ret2;exact ⟨⟨v,by rw [HX.out];rfl,by rw [HX.out];have:=HV.out;rw [HR.out] at this;exact FGot.bad this HZ.out⟩,B1.out⟩
theorem openR_len:∀r:List (Nat×UInt8),(openR r).length=sumR r
 | []=>rfl
 |(n,c)::r=>by
  have h:=openR_append [(n,c)] r;rw [show [(n,c)]++r=(n,c)::r from rfl] at h;rw [h,List.length_append,openR_len r];simp [openR,sumR]
theorem openT_len (r:List (Nat×UInt8)×Option Nat):(openT r 20000).length≤20000:=by
 unfold openT;split
 ·split
  ·simp
  ·rw [openR_len];omega
 ·simp
section
variable {x:WantB} {s:ByteArray}
theorem openW_check {c:Nat} (h:wantE x=c+1):openW x s=(c+1,[]):=by unfold openW;rw [if_pos (by omega),h]
theorem openW_from (h:wantE x=0):openW x s=if 20000<s.size then (2,[])
 else if bl x.kind=kPack then unpackT (bl s) x.strip
 else if bl x.kind=kPress then (if (openE (runsL (bl s)) 20000).code≠0 then ((openE (runsL (bl s)) 20000).code,[]) else unpackT (openT (runsL (bl s)) 20000) x.strip)
 else if (treeEr (oneFile x.name s)).code≠0 then ((treeEr (oneFile x.name s)).code,[]) else (0,oneFile x.name s):=by
 unfold openW;rw [if_neg (by omega)]
end
theorem wantOpen_any {E:Nat→Addr} (x:WantB) (s:ByteArray) (w:World) (hn:x.name.size≤30000) (hu:x.url.size≤1000000) (hs:s.size≤1000000) (hE:REnv E w):
  Calls Tryz.prog 251 #[.agg #[.string x.name,.string x.url,.string x.kind,.int .i64 x.strip,.int .i64 x.sum],.string s] w (WOpenPost E (openW x s) w):=by
 obtain ⟨i0,hi0,hz0,hz1,hz2⟩:=info_parts Tryz.infoFile;obtain ⟨px,hpx⟩:∃px,w.heap.size=px:=⟨_,rfl⟩;obtain ⟨wx,hwx⟩:∃wx,w.alloc (.cells #[.string x.name,.string x.url,.string x.kind,.int .i64 x.strip,.int .i64 x.sum] 134)=wx:=⟨_,rfl⟩;have hbx:Below w.heap.size w wx:=by rw [←hwx];exact (Below.refl _ _).alloc (Nat.le_refl _) _
 have BX:=Lib.hid (show WBox wx px x by rw [←hwx,←hpx];exact WBox.new w x);have HB:=Lib.hid hbx;have HE:=Lib.hid hE;have HWX:=Lib.hid hwx;have HPX:=Lib.hid hpx;have K1:=Lib.hid (fun c=>@openW_check x s c);have K2:=Lib.hid (@openW_from x s);obtain ⟨c0,c1,c2,c3,c4⟩:=BX.out.cells;have C:=Lib.hid (wantCheck_any x wx (by omega) hu (hE.ext hbx).1.1);clear hpx hwx hbx hE;go_enter Tryz.func251,Tryz.ntmps251;go_upto_region 1 with fail
 rw [HWX.out,HPX.out];go_wp2_with fail;refine C.out.mono ?_;clear C;rintro e w1 ⟨rfl,hb1⟩;have B1:=Lib.hid (HB.out.trans (hb1.mono HB.out.size));have BX1:=Lib.hid (BX.out.ext hb1);clear hb1 c0 c1 c2 c3 c4
 cases hw:wantE x with
 |succ c=>
  have HX:=Lib.hid (K1.out c hw);rw [show errV E (c+1)=sentV E c from rfl];clear hw;go_wp2_with fail;go_ret2;exact WOpenPost.none HX.out B1.out
 |zero=>
  have HX:=Lib.hid (K2.out hw);obtain ⟨n1,n2,_,_⟩:=want_nums hw;obtain ⟨k,hkk⟩:∃k:Nat,x.strip=k:=⟨x.strip.toNat,by omega⟩;have HWF:Hid ((Lit.int .i64 x.strip).wf=true):=by show _=_;rw [hkk];exact wf_len (by omega)
  rw [show errV E 0=.nilIface from rfl];obtain ⟨c0,_,c2,c3,_⟩:=BX1.out.cells;have cB:=(HE.out.ext B1.out).1.1.1.eBound;clear hw K1 K2 hkk n1 n2;by_cases h20:20000<s.size
  ·have HY:Hid (openW x s=(2,[])):=by show _=_;rw [HX.out,if_pos h20]
   go_wp2_with fail;go_quiet (fail);go_wp2_with fail;go_ret2;exact WOpenPost.none HY.out (B1.out.trans ((below_drewN _ _ _).mono B1.out.size))
  ·have HX2:=HX.out;rw [if_neg h20] at HX2;have HX3:=Lib.hid HX2;clear HX HX2;have q2:=kind_eqb2 x.kind;have q3:=kind_eqb3 x.kind;by_cases hk2:bl x.kind=kPack
   ·rw [decide_eq_true hk2] at q2;have HY:Hid (openW x s=unpackT (bl s) x.strip):=by show _=_;rw [HX3.out,if_pos hk2]
    have C:=Lib.hid (unpacked_any s x.strip w1 (by omega) HWF.out (HE.out.ext B1.out));clear hk2 HX3 q3 c0 cB;go_wp2_with fail;refine C.out.mono ?_;rintro e w2 ⟨⟨v,rfl,HV⟩,hb2⟩;go_wp2_with fail;go_ret2;exact ⟨⟨v,by rw [HY.out];rfl,by rw [HY.out];exact HV.out.low B1.out.size⟩,B1.out.trans (hb2.mono B1.out.size)⟩
   ·rw [decide_eq_false hk2] at q2;have HX4:=HX3.out;rw [if_neg hk2] at HX4;have HX5:=Lib.hid HX4;clear HX3 HX4 hk2;by_cases hk3:bl x.kind=kPress
    ·rw [decide_eq_true hk3] at q3;have HX6:=HX5.out;rw [if_pos hk3] at HX6;have HX7:=Lib.hid HX6;have C:=Lib.hid (open_any s 20000 w1 (by omega) (by decide) (HE.out.ext B1.out).1.1.1);clear hk3 HX5 HX6 c0 cB;go_wp2_with fail;refine C.out.mono ?_;clear C;rintro e w2 ⟨t,v,rfl,HT,HI,hb2⟩;have HI:=Lib.hid HI;have B2:=Lib.hid (B1.out.trans (hb2.mono B1.out.size));have BX2:=Lib.hid (BX1.out.ext hb2);clear c2 c3 hb2;obtain ⟨_,_,_,c3,_⟩:=BX2.out.cells;have ht:t.size≤20000:=by rw [←bl_length,HT.out];exact openT_len _
     by_cases hz:(openE (runsL (bl s)) 20000).code=0
     ·obtain rfl:v=.nilIface:=HI.out.zero hz;have HY:Hid (openW x s=unpackT (bl t) x.strip):=by show _=_;rw [HX7.out,if_neg (by rw [hz];simp),HT.out]
      have C:=Lib.hid (unpacked_any t x.strip w2 (by omega) HWF.out (HE.out.ext B2.out));clear hz HX7 HI;go_wp2_with fail;refine C.out.mono ?_;rintro e w3 ⟨⟨v,rfl,HV⟩,hb3⟩;go_wp2_with fail;go_ret2;exact ⟨⟨v,by rw [HY.out];rfl,by rw [HY.out];exact HV.out.low B2.out.size⟩,B2.out.trans (hb3.mono B2.out.size)⟩
     ·have HY:Hid (openW x s=((openE (runsL (bl s)) 20000).code,[])):=by show _=_;rw [HX7.out,if_pos hz]
      obtain ⟨ty,y,rfl⟩:=HI.out.some_inv hz;clear hz HX7;go_wp2_with fail;refine (treeBare_any _ _ w2 HI.out).mono ?_;rintro e w3 ⟨⟨u,rfl,HU⟩,rfl⟩;obtain rfl:=HU.out.none_inv;go_wp2_with fail;go_ret2;exact WOpenPost.none HY.out B2.out
    ·rw [decide_eq_false hk3] at q3;have HX6:=HX5.out;rw [if_neg hk3] at HX6;have HX7:=Lib.hid HX6;clear hk3 HX5 HX6 c3 cB;obtain ⟨f,hf⟩:∃f:FileB,(⟨x.name,false,s⟩:FileB)=f:=⟨_,rfl⟩;obtain ⟨wf,hwf⟩:∃wf,w1.alloc (.cells #[.string x.name,.bool false,.string s] 170)=wf:=⟨_,rfl⟩;have hbf:Below w1.heap.size w1 wf:=by rw [←hwf];exact (Below.refl _ _).alloc (Nat.le_refl _) _
     have HV:Hid (FGot wf w1.heap.size 0 (.slice (some ⟨w1.heap.size,0,none⟩) 1 1) (oneFile x.name s)):=by
      show FGot _ _ _ _ _;rw [←hwf];exact FGot.of (one_own w1 ⟨x.name,false,s⟩)
     have BF:=Lib.hid (B1.out.trans (hbf.mono B1.out.size));have HWf:=Lib.hid hwf;have C:=Lib.hid (treeCheck_any _ (oneFile x.name s) wf HV.out.1 (by simp [oneFile]) (fun g hg=>by
      obtain rfl:g=⟨x.name,false,s⟩:=by simpa [oneFile] using hg
      exact ⟨by show x.name.size≤_;omega,by show s.size≤_;omega⟩) (HE.out.ext BF.out).1.1)
     clear hbf hwf hf;go_wp2_with fail;rw [HWf.out];refine C.out.mono ?_;clear C;rintro e w2 ⟨⟨ev,rfl,HI⟩,hb2⟩;have B2:=Lib.hid (BF.out.trans (hb2.mono BF.out.size));have HV2:=Lib.hid (HV.out.ext hb2);by_cases hz:(treeEr (oneFile x.name s)).code=0
     ·obtain rfl:ev=.nilIface:=HI.out.zero hz;have HY:Hid (openW x s=(0,oneFile x.name s)):=by show _=_;rw [HX7.out,if_neg (by rw [hz];simp)]
      clear hz HX7 HI hb2 c0 c2;go_wp2_with fail;go_ret2;exact ⟨⟨_,by rw [HY.out];rfl,by rw [HY.out];exact HV2.out.low B1.out.size⟩,B2.out⟩
     ·have HY:Hid (openW x s=((treeEr (oneFile x.name s)).code,[])):=by show _=_;rw [HX7.out,if_pos hz]
      obtain ⟨ty,y,rfl⟩:=HI.out.some_inv hz;clear hz HX7 hb2 c0 c2;go_wp2_with fail;refine (treeBare_any _ _ w2 HI.out).mono ?_;rintro e w3 ⟨⟨u,rfl,HU⟩,rfl⟩;obtain rfl:=HU.out.none_inv;go_wp2_with fail;go_ret2;exact WOpenPost.none HY.out B2.out
theorem rightW_bad {x:WantB} {s:ByteArray} {c:Nat} (h:(openW x s).1=c+1):rightW x s=(c+1,[]):=by unfold rightW;rw [if_pos (by omega),h]
theorem rightW_from {x:WantB} {s:ByteArray} (h:(openW x s).1=0):rightW x s=if treeSum (openW x s).2≠x.sum then (12,[]) else (0,(openW x s).2):=by unfold rightW;rw [if_neg (by omega)]
theorem wantRight_any {E:Nat→Addr} (x:WantB) (s:ByteArray) (w:World) (hn:x.name.size≤30000) (hu:x.url.size≤1000000) (hs:s.size≤1000000) (hE:REnv E w):
  Calls Tryz.prog 238 #[.agg #[.string x.name,.string x.url,.string x.kind,.int .i64 x.strip,.int .i64 x.sum],.string s] w (WOpenPost E (rightW x s) w):=by
 obtain ⟨px,hpx⟩:∃px,w.heap.size=px:=⟨_,rfl⟩;obtain ⟨wx,hwx⟩:∃wx,w.alloc (.cells #[.string x.name,.string x.url,.string x.kind,.int .i64 x.strip,.int .i64 x.sum] 134)=wx:=⟨_,rfl⟩;have hbx:Below w.heap.size w wx:=by rw [←hwx];exact (Below.refl _ _).alloc (Nat.le_refl _) _
 have BX:=Lib.hid (show WBox wx px x by rw [←hwx,←hpx];exact WBox.new w x);have HB:=Lib.hid hbx;have HE:=Lib.hid hE;have HWX:=Lib.hid hwx;have HPX:=Lib.hid hpx;have K1:=Lib.hid (fun c=>@rightW_bad x s c);have K2:=Lib.hid (@rightW_from x s);have KOK:=Lib.hid (@openW_ok x s);obtain ⟨c0,c1,c2,c3,c4⟩:=BX.out.cells;have C:=Lib.hid (wantOpen_any x s wx hn hu hs (hE.ext hbx));clear hpx hwx hbx hE;go_enter Tryz.func238,Tryz.ntmps238;go_upto_region 1 with fail
 rw [HWX.out,HPX.out];go_wp2_with fail;refine C.out.mono ?_;clear C;rintro e w1 ⟨⟨v,rfl,HV⟩,hb1⟩;have B1:=Lib.hid (HB.out.trans (hb1.mono HB.out.size));have BX1:=Lib.hid (BX.out.ext hb1);clear hb1 c0 c1 c2 c3 c4;obtain ⟨r,hr⟩:∃r,openW x s=r:=⟨_,rfl⟩;rw [hr] at HV KOK K1 K2⊢;clear hr;obtain ⟨c,l⟩:=r
 cases c with
 |succ c=>
  have HX:=Lib.hid (K1.out c rfl);rw [show errV E ((c+1,l):Nat×List FileB).1=sentV E c from rfl];go_wp2_with fail;go_ret2;exact WOpenPost.none HX.out B1.out
 |zero=>
  have ok:TreeOk l:=KOK.out rfl;have HX:=Lib.hid (K2.out rfl);have HER:=Lib.hid ok.er;rw [show errV E ((0,l):Nat×List FileB).1=.nilIface from rfl];have C:=Lib.hid (packSum_any v l w1 HV.out.1 (by have:=ok.few;omega) (fun f hf=>(ok.small f hf).1) (HE.out.ext B1.out).1);clear ok KOK K1 K2;go_wp2_with fail;refine C.out.mono ?_;clear C;rintro e w2 ⟨⟨ev,rfl,HI⟩,hb2⟩;have B2:=Lib.hid (B1.out.trans (hb2.mono B1.out.size));have HV2:=Lib.hid (HV.out.ext hb2);obtain ⟨_,_,_,_,c4⟩:=(BX1.out.ext hb2).cells;have cS:=(HE.out.ext B2.out).1.1.1.eSum;obtain rfl:ev=.nilIface:=HI.out.zero (by rw [HER.out]);obtain ⟨n,hnn⟩:∃n:Int,((sumL (packT l):Nat):Int)=n:=⟨_,rfl⟩;have HN:Hid (treeSum l=n):=hnn;rw [hnn];clear hnn HI HER hb2;by_cases hne:n=x.sum
  ·have HY:Hid (rightW x s=(0,l)):=by show _=_;rw [HX.out,if_neg (by simpa [HN.out] using hne)]
   subst hne;have q:=beq_self_eq_true x.sum;clear HX;go_wp2_with fail;go_ret2;exact ⟨⟨_,by rw [HY.out];rfl,by rw [HY.out];exact HV2.out.low HB.out.size⟩,B2.out⟩
  ·have HY:Hid (rightW x s=(12,[])):=by show _=_;rw [HX.out,if_pos (by simpa [HN.out] using hne)]
   have q:(n==x.sum)=false:=beq_eq_false_iff_ne.2 hne;clear HX hne;go_wp2_with fail;go_ret2;exact WOpenPost.none HY.out B2.out
theorem fiveW_len {l:List (List UInt8)} (h:l.length≠5):fiveW l=none:=by
 unfold fiveW;split
 ·exact absurd rfl h
 ·rfl
theorem readW_none {s:List UInt8} (h:fiveW (cutL 32 s)=none):readW s=(1,zeroW):=by unfold readW;rw [h]
theorem readW_bad {s:List UInt8} {x:WantB} {c:Nat} (h:fiveW (cutL 32 s)=some x) (h2:wantE x=c+1):readW s=(c+1,zeroW):=by
 unfold readW;rw [h];show (if wantE x≠0 then (wantE x,zeroW) else (0,x))=_;rw [if_pos (by omega),h2]
theorem readW_fine {s:List UInt8} {x:WantB} (h:fiveW (cutL 32 s)=some x) (h2:wantE x=0):readW s=(0,x):=by
 unfold readW;rw [h];show (if wantE x≠0 then (wantE x,zeroW) else (0,x))=_;rw [if_neg (by omega)]
section
variable {a b c d e:ByteArray}
theorem fiveW_some {n m:Nat} (h1:numOf (bl d) 1=some n) (h2:readS (bl e)=some m):fiveW [bl a,bl b,bl c,bl d,bl e]=some ⟨a,b,c,n,m⟩:=by
 show (match numOf (bl d) 1,readS (bl e) with|some n,some m=>some (mkW (bl a) (bl b) (bl c) n m)|_,_=>none)=_;rw [h1,h2];show some (mkW (bl a) (bl b) (bl c) n m)=_;unfold mkW;rw [mk_bl,mk_bl,mk_bl]
theorem fiveW_no4 (h1:numOf (bl d) 1=none):fiveW [bl a,bl b,bl c,bl d,bl e]=none:=by
 show (match numOf (bl d) 1,readS (bl e) with|some n,some m=>some (mkW (bl a) (bl b) (bl c) n m)|_,_=>none)=_;rw [h1]
theorem fiveW_no5 (h2:readS (bl e)=none):fiveW [bl a,bl b,bl c,bl d,bl e]=none:=by
 show (match numOf (bl d) 1,readS (bl e) with|some n,some m=>some (mkW (bl a) (bl b) (bl c) n m)|_,_=>none)=_;rw [h2]
 cases numOf (bl d) 1<;>rfl
end
theorem five_of {zs:List ByteArray} (h:zs.length=5):∃a b c d e,zs=[a,b,c,d,e]:=by
 match zs,h with
 | [a,b,c,d,e],_=>exact ⟨a,b,c,d,e,rfl⟩
def WReadPost (E:Nat→Addr) (s:ByteArray) (w:World) (e:Ending) (w':World):Prop:=
 e=.returned (.tuple #[wV (readW (bl s)).2,errV E (readW (bl s)).1])∧Below w.heap.size w w'
theorem WReadPost.of {E:Nat→Addr} {s:ByteArray} {w w':World} {c:Nat} {y:WantB} (h:readW (bl s)=(c,y)) (hb:Below w.heap.size w w'):
  WReadPost E s w (.returned (.tuple #[.agg #[.string y.name,.string y.url,.string y.kind,.int .i64 y.strip,.int .i64 y.sum],errV E c])) w':=⟨by rw [h];rfl,hb⟩
theorem wantRead_any {E:Nat→Addr} (s:ByteArray) (w:World) (hs:s.size≤100000) (hE:REnv E w):
  Calls Tryz.prog 176 #[.string s] w (WReadPost E s w):=by
 obtain ⟨i0,hi0,hz0,hz1,hz2⟩:=info_parts Tryz.infoWant;obtain ⟨px,hpx⟩:∃px,w.heap.size=px:=⟨_,rfl⟩;obtain ⟨wx,hwx⟩:∃wx,w.alloc (.cells #[.string ⟨#[]⟩,.string ⟨#[]⟩,.string ⟨#[]⟩,.int .i64 0,.int .i64 0] 134)=wx:=⟨_,rfl⟩;have hbx:Below w.heap.size w wx:=by rw [←hwx];exact (Below.refl _ _).alloc (Nat.le_refl _) _
 have BX:=Lib.hid (show WBox wx px zeroW by rw [←hwx,←hpx];exact WBox.new w zeroW);have hpw:w.heap.size≤px:=Nat.le_of_eq hpx;have hgp:px≠2:=by have:=lt_of_cell hE.1.1.1.eText;have h2:2<w.heap.size:=this;omega
 have hgq:2≠px:=fun e=>hgp e.symm
 have HB:=Lib.hid hbx;have HE:=Lib.hid hE;have HWX:=Lib.hid hwx;have HPX:=Lib.hid hpx;have C:=Lib.hid (split_any s 32 wx (by omega) (hE.ext hbx).1.1.2.max);clear hpx hwx hbx hE;go_enter Tryz.func176,Tryz.ntmps176;go_wp2_with fail;rw [HWX.out,HPX.out];refine C.out.mono ?_;clear C;rintro e w1 ⟨⟨zs,n,rfl,HZ,hn,hl,HS,HA⟩,hb1⟩;have B1:=Lib.hid (HB.out.trans (hb1.mono HB.out.size));have BX1:=Lib.hid (BX.out.ext hb1);obtain ⟨b,hb⟩:∃b,wx.heap.size=b:=⟨_,rfl⟩;rw [hb] at HA⊢;clear hb hb1;by_cases h5:n=5;rotate_left
 ·have HX:Hid (readW (bl s)=(1,zeroW)):=readW_none (fiveW_len (by rw [←HZ.out,List.length_map,←hn];exact h5));obtain ⟨c0,c1,c2,c3,c4⟩:=BX1.out.cells;obtain ⟨f0,f1,f2,f3,f4⟩:=BX1.out.froz;have cE:=(HE.out.ext B1.out).1.1.1.eText;have hne:((n:Int)==5)=false:=by rw [beq_eq_false_iff_ne];omega
  have W2:=Lib.hid ((BX1.out.store zeroW).cells);have B2:=Lib.hid (B1.out.trans (below_wPut w1 zeroW hpw));clear h5 hn HZ HS HA;go_wp2_with fail;go_region
  all_goals go_wp2_with fail
  obtain ⟨s0,s1,s2,s3,s4⟩:=W2.out;unfold wPut zeroW at s0 s1 s2 s3 s4;refine bodyPost_ret (v:= .tuple #[.agg #[.string ⟨#[]⟩,.string ⟨#[]⟩,.string ⟨#[]⟩,.int .i64 0,.int .i64 0],errV E 1]) ?_ rfl (WReadPost.of HX.out B2.out.drew);simp [results,Tryz.results176,go_sem,s0,s1,s2,s3,s4,errV]
 ·subst h5;obtain ⟨z0,z1,z2,z3,z4,rfl⟩:=five_of hn.symm;have HP:Hid (cutL 32 (bl s)=[bl z0,bl z1,bl z2,bl z3,bl z4]):=HZ.out.symm;have a0:=HA.out.2 0 (by simp);have a1:=HA.out.2 1 (by simp);have a2:=HA.out.2 2 (by simp);have a3:w1.cell? ⟨b,3,none⟩=some (.string z3):=HA.out.2 3 (by simp);have sz3:=HS.out z3 (by simp);have sz4:=HS.out z4 (by simp);have sz0:=HS.out z0 (by simp);have sz1:=HS.out z1 (by simp);have sz2:=HS.out z2 (by simp);have HA1:=Lib.hid HA.out.2;have hbl:=HA.out.1;have C:=Lib.hid (sumNumber_any z3 1 (by decide) w1 (by omega) (HE.out.ext B1.out).2 (HE.out.ext B1.out).1.2);clear a0 a1 a2 hn HZ HS HA;go_wp2_with fail;refine C.out.mono ?_;clear C;rintro e w2 ⟨v,ok,rfl,HN,hb2⟩;have B2:=Lib.hid (B1.out.trans (hb2.mono B1.out.size));have BX2:=Lib.hid (BX1.out.ext hb2);have a4:w2.cell? ⟨b,4,none⟩=some (.string z4):=(hb2.cell (p:=⟨b,4,none⟩) hbl).trans (HA1.out 4 (by simp));have C:=Lib.hid (sumRead_any z4 (sentV E 0) w2 (by omega) (HE.out.ext B2.out).2 (HE.out.ext B2.out).1.2 (HE.out.ext B2.out).1.1.1.eText);have hb12:=Lib.hid hb2;clear hb2 a3;go_wp2_with fail;refine C.out.mono ?_;clear C;rintro e w3 hpost;have HPO:Hid (∃(m:Int) (ev:Value),e=.returned (.tuple #[.int .i64 m,ev])∧((ev=.nilIface∧∃k:Nat,m=k∧readS (bl z4)=some k)∨(ev=sentV E 0∧readS (bl z4)=none))∧Below w2.heap.size w2 w3):=by
   rcases hpost with ⟨k,h1,h2,_,h4⟩|⟨h1,h2,h3⟩
   ·exact ⟨k,.nilIface,h1,.inl ⟨rfl,k,rfl,h2.out⟩,h4⟩
   ·exact ⟨0,sentV E 0,h1,.inr ⟨rfl,h2.out⟩,h3⟩
  clear hpost;obtain ⟨m,ev,rfl,hR,hb3⟩:=HPO.out;have HR:=Lib.hid hR;have B3:=Lib.hid (B2.out.trans (hb3.mono B2.out.size));have BX3:=Lib.hid (BX2.out.ext hb3);have hbl3:b<w2.heap.size:=Nat.lt_of_lt_of_le hbl hb12.out.size;have a0:w3.cell? ⟨b,0,none⟩=some (.string z0):=(hb3.cell (p:=⟨b,0,none⟩) hbl3).trans ((hb12.out.cell (p:=⟨b,0,none⟩) hbl).trans (HA1.out 0 (by simp)));have a1:w3.cell? ⟨b,1,none⟩=some (.string z1):=(hb3.cell (p:=⟨b,1,none⟩) hbl3).trans ((hb12.out.cell (p:=⟨b,1,none⟩) hbl).trans (HA1.out 1 (by simp)));have a2:w3.cell? ⟨b,2,none⟩=some (.string z2):=(hb3.cell (p:=⟨b,2,none⟩) hbl3).trans ((hb12.out.cell (p:=⟨b,2,none⟩) hbl).trans (HA1.out 2 (by simp)));obtain ⟨c0,c1,c2,c3,c4⟩:=BX3.out.cells;obtain ⟨f0,f1,f2,f3,f4⟩:=BX3.out.froz;have cE:=(HE.out.ext B3.out).1.1.1.eText;clear hR hb3 hb12 hbl hbl3 HPO a4;have BAD:Hid (fiveW [bl z0,bl z1,bl z2,bl z3,bl z4]=none→readW (bl s)=(1,zeroW)):=fun h=>readW_none (by rw [HP.out];exact h)
  have W3:=Lib.hid ((BX3.out.store zeroW).cells);have B4:=Lib.hid (B3.out.trans (below_wPut w3 zeroW hpw));rcases HN.out with ⟨k,hk,rfl,rfl⟩|⟨hk,rfl⟩
  rotate_left
  ·have HX:=Lib.hid (BAD.out (fiveW_no4 hk));clear hk BAD HN HR;go_wp2_with fail;go_region
   all_goals go_wp2_with fail
   obtain ⟨s0,s1,s2,s3,s4⟩:=W3.out;unfold wPut zeroW at s0 s1 s2 s3 s4;refine bodyPost_ret (v:= .tuple #[.agg #[.string ⟨#[]⟩,.string ⟨#[]⟩,.string ⟨#[]⟩,.int .i64 0,.int .i64 0],errV E 1]) ?_ rfl (WReadPost.of HX.out B4.out.drew);simp [results,Tryz.results176,go_sem,s0,s1,s2,s3,s4,errV]
  ·rcases HR.out with ⟨rfl,m',rfl,hm⟩|⟨rfl,hm⟩
   rotate_left
   ·have HX:=Lib.hid (BAD.out (fiveW_no5 hm));clear hk hm BAD HN HR;go_wp2_with fail;go_region
    all_goals go_wp2_with fail
    obtain ⟨s0,s1,s2,s3,s4⟩:=W3.out;unfold wPut zeroW at s0 s1 s2 s3 s4;refine bodyPost_ret (v:= .tuple #[.agg #[.string ⟨#[]⟩,.string ⟨#[]⟩,.string ⟨#[]⟩,.int .i64 0,.int .i64 0],errV E 1]) ?_ rfl (WReadPost.of HX.out B4.out.drew);simp [results,Tryz.results176,go_sem,s0,s1,s2,s3,s4,errV]
   ·have HF:Hid (fiveW (cutL 32 (bl s))=some ⟨z0,z1,z2,k,m'⟩):=by show _=_;rw [HP.out,fiveW_some hk hm]
    have e0:=Lib.cell?_alloc_some (.cells #[.string ⟨#[]⟩,.string ⟨#[]⟩,.string ⟨#[]⟩,.int .i64 0,.int .i64 0] 134) a0;have e1:=Lib.cell?_alloc_some (.cells #[.string ⟨#[]⟩,.string ⟨#[]⟩,.string ⟨#[]⟩,.int .i64 0,.int .i64 0] 134) a1;have e2:=Lib.cell?_alloc_some (.cells #[.string ⟨#[]⟩,.string ⟨#[]⟩,.string ⟨#[]⟩,.int .i64 0,.int .i64 0] 134) a2;have NB:WBox (w3.alloc (.cells #[.string ⟨#[]⟩,.string ⟨#[]⟩,.string ⟨#[]⟩,.int .i64 0,.int .i64 0] 134)) w3.heap.size zeroW:=WBox.new w3 zeroW;obtain ⟨n0,n1,n2,n3,n4⟩:(w3.alloc (.cells #[.string ⟨#[]⟩,.string ⟨#[]⟩,.string ⟨#[]⟩,.int .i64 0,.int .i64 0] 134)).cell? ⟨w3.heap.size,0,none⟩=some (.string ⟨#[]⟩)∧(w3.alloc (.cells #[.string ⟨#[]⟩,.string ⟨#[]⟩,.string ⟨#[]⟩,.int .i64 0,.int .i64 0] 134)).cell? ⟨w3.heap.size,1,none⟩=some (.string ⟨#[]⟩)∧(w3.alloc (.cells #[.string ⟨#[]⟩,.string ⟨#[]⟩,.string ⟨#[]⟩,.int .i64 0,.int .i64 0] 134)).cell? ⟨w3.heap.size,2,none⟩=some (.string ⟨#[]⟩)∧(w3.alloc (.cells #[.string ⟨#[]⟩,.string ⟨#[]⟩,.string ⟨#[]⟩,.int .i64 0,.int .i64 0] 134)).cell? ⟨w3.heap.size,3,none⟩=some (.int .i64 0)∧(w3.alloc (.cells #[.string ⟨#[]⟩,.string ⟨#[]⟩,.string ⟨#[]⟩,.int .i64 0,.int .i64 0] 134)).cell? ⟨w3.heap.size,4,none⟩=some (.int .i64 0):=NB.cells;obtain ⟨g0,g1,g2,g3,g4⟩:=NB.froz;have NB2:=Lib.hid (NB.store ⟨z0,z1,z2,k,m'⟩);clear hk hm BAD HN HR W3 B4 NB;go_wp2_with fail;go_region
    all_goals
     go_wp2_with fail
    obtain ⟨py,hpy⟩:∃py,w3.heap.size=py:=⟨_,rfl⟩;obtain ⟨wy,hwy⟩:∃wy,(w3.alloc (.cells #[.string z0,.string z1,.string z2,.int .i64 k,.int .i64 m'] 134)).drew=wy:=⟨_,rfl⟩;have hby:Below w3.heap.size w3 wy:=by rw [←hwy];exact ((Below.refl _ _).alloc (Nat.le_refl _) _).drew
    have BY:Hid (WBox wy py ⟨z0,z1,z2,k,m'⟩):=by show WBox _ _ _;rw [←hwy,←hpy];exact WBox.new w3 ⟨z0,z1,z2,k,m'⟩
    have B4:=Lib.hid (B3.out.trans (hby.mono B3.out.size));have BX4:=Lib.hid (BX3.out.ext hby);rw [hwy,hpy];clear hwy hpy hby e0 e1 e2 n0 n1 n2 n3 n4 g0 g1 g2 g3 g4 NB2 c0 c1 c2 c3 c4 f0 f1 f2 f3 f4 a0 a1 a2 cE BX3 BX2 BX1 BX HA1;refine (wantCheck_any ⟨z0,z1,z2,k,m'⟩ wy (by show z0.size≤_;omega) (by show z1.size≤_;omega) (HE.out.ext B4.out).1.1).mono ?_;rintro e w5 ⟨rfl,hb5⟩;have B5:=Lib.hid (B4.out.trans (hb5.mono B4.out.size));have BX5:=Lib.hid (BX4.out.ext hb5);have BY5:=Lib.hid (BY.out.ext hb5);obtain ⟨c0,c1,c2,c3,c4⟩:=BX5.out.cells;obtain ⟨f0,f1,f2,f3,f4⟩:=BX5.out.froz;clear hb5 BY BX4
    cases hw:wantE ⟨z0,z1,z2,k,m'⟩ with
    |succ c=>
     have HX:=Lib.hid (readW_bad HF.out hw);have W6:=Lib.hid ((BX5.out.store zeroW).cells);have B6:=Lib.hid (B5.out.trans (below_wPut w5 zeroW hpw));rw [show errV E (c+1)=sentV E c from rfl];clear hw;go_wp2_with fail;obtain ⟨s0,s1,s2,s3,s4⟩:=W6.out;unfold wPut zeroW at s0 s1 s2 s3 s4;refine bodyPost_ret (v:= .tuple #[.agg #[.string ⟨#[]⟩,.string ⟨#[]⟩,.string ⟨#[]⟩,.int .i64 0,.int .i64 0],errV E (c+1)]) ?_ rfl (WReadPost.of HX.out B6.out);simp [results,Tryz.results176,go_sem,s0,s1,s2,s3,s4,errV]
    |zero=>
     have HX:=Lib.hid (readW_fine HF.out hw);have W6:=Lib.hid ((BX5.out.store ⟨z0,z1,z2,k,m'⟩).cells);have B6:=Lib.hid (B5.out.trans (below_wPut w5 ⟨z0,z1,z2,k,m'⟩ hpw));obtain ⟨y0,y1,y2,y3,y4⟩:w5.cell? ⟨py,0,none⟩=some (.string z0)∧w5.cell? ⟨py,1,none⟩=some (.string z1)∧w5.cell? ⟨py,2,none⟩=some (.string z2)∧w5.cell? ⟨py,3,none⟩=some (.int .i64 k)∧w5.cell? ⟨py,4,none⟩=some (.int .i64 m'):=BY5.out.cells;rw [show errV E 0=.nilIface from rfl];clear hw;go_wp2_with fail;obtain ⟨s0,s1,s2,s3,s4⟩:=W6.out;unfold wPut at s0 s1 s2 s3 s4;refine bodyPost_ret (v:= .tuple #[.agg #[.string z0,.string z1,.string z2,.int .i64 k,.int .i64 m'],errV E 0]) ?_ rfl (WReadPost.of HX.out B6.out);simp [results,Tryz.results176,go_sem,s0,s1,s2,s3,s4,errV]
end Go.Proofs.YtaabgmbjmfjdjaaGreatDoor
