import Derived.Test.YtaabgmbjmfjdjaaGreatDoorJLockPlainsEtc
import Derived.Test.YtaabgmbjmfjdjaaGreatDoorJTreeDropsEtc
import Derived.Test.YtaabgmbjmfjdjaaGreatDoorJLockUpEtc
import Derived.Test.YtaabgmbjmfjdjaaGreatDoorJRefTryEtc
import Derived.Test.YtaabgmbjmfjdjaaGreatDoorJShopTurnsEtc
import Derived.Test.YtaabgmbjmfjdjaaGreatDoorJWantsUp
import Derived.Test.YtaabgmbjmfjdjaaGreatDoorJRefTreeEtc
import Derived.Test.YtaabgmbjmfjdjaaGreatDoorJSummed
import Derived.Deep.RegionHeld3
namespace Go.Proofs.YtaabgmbjmfjdjaaGreatDoor
open Go Go.RowKit Go.Sort
set_option maxHeartbeats 4000000
set_option maxRecDepth 100000
theorem found_iff {l:List WantB} {w:WantB} (hl:l.Pairwise wLt):decide (((l.drop (placeW l w)).head?.map (fun g=>decide (g.name=w.name)))=some true)=(findW w.name l).isSome:=by
 obtain ⟨A,D,e,_,hD,hA1,hD1⟩:=place_parts (w:=w) hl;rw [hD,Bool.eq_iff_iff,decide_eq_true_iff,findW_isSome];constructor
 ·intro h
  cases D with
  |nil=>simp at h
  |cons d D=>
   have h2:d.name=w.name:=by simpa using h
   exact ⟨d,by rw [e];simp,h2⟩
 ·rintro ⟨x,hx,ex⟩;rw [e] at hx;rcases List.mem_append.1 hx with hx|hx
  ·exact absurd ex (hA1 x hx).ne
  ·cases D with
   |nil=>cases hx
   |cons d D=>
    rcases List.mem_cons.1 hx with rfl|hx2
    ·simp [ex]
    ·have hp:(A++d::D).Pairwise wLt:=by rw [←e];exact hl
     have h3:wLt d x:=(List.pairwise_cons.1 (List.pairwise_append.1 hp).2.1).1 x hx2;exact absurd ((wLt.congr rfl ex).1 h3) (hD1 d (List.mem_cons_self ..))
theorem set5 {α:Type} (L:List α) (o:Nat) (x y z u v:α) (h:o+5≤L.length):((((L.set o x).set (o+1) y).set (o+2) z).set (o+3) u).set (o+4) v=splice L o [x,y,z,u,v]:=by
 apply List.ext_getElem?;intro j;unfold splice;simp only [List.getElem?_set,List.getElem?_append,List.length_take,List.length_cons,List.length_nil,List.getElem?_take,List.getElem?_drop,List.length_set];rw [Nat.min_eq_left (show o≤L.length by omega)];by_cases c1:j<o
 ·rw [if_neg (by omega),if_neg (by omega),if_neg (by omega),if_neg (by omega),if_neg (by omega),if_pos c1,if_pos c1]
 ·by_cases c2:j<o+5
  ·have:j=o∨j=o+1∨j=o+2∨j=o+3∨j=o+4:=by omega
   have h0:o<L.length:=by omega
   have h1:o+1<L.length:=by omega
   have h2:o+2<L.length:=by omega
   have h3:o+3<L.length:=by omega
   have h4:o+4<L.length:=by omega
   rcases this with rfl|rfl|rfl|rfl|rfl
   ·simp [h0]
   ·simp [h1];omega
   ·simp [h2];omega
   ·simp [h3];omega
   ·simp [h4];omega
  ·rw [if_neg (by omega),if_neg (by omega),if_neg (by omega),if_neg (by omega),if_neg (by omega),if_neg c1,if_neg (by omega)];congr 1;omega
def rowPut (w:World) (g o:Nat) (f:WantB):World:=((((w.setCell ⟨g,o,none⟩ (.string f.name)).setCell ⟨g,o+1,none⟩ (.string f.url)).setCell ⟨g,o+2,none⟩ (.string f.kind)).setCell ⟨g,o+3,none⟩ (.int .i64 f.strip)).setCell ⟨g,o+4,none⟩ (.int .i64 f.sum)
theorem wsplice_take {α:Type} (L cs:List α) (o n:Nat) (h:o+cs.length≤n) (hn:n≤L.length):(splice L o cs).take n=splice (L.take n) o cs:=by
 unfold splice;rw [List.take_append,List.take_append,List.take_take,List.take_take,List.length_take,List.drop_take,Nat.min_eq_right (show o≤n by omega),Nat.min_eq_left (show o≤n by omega),Nat.min_eq_left (show o≤L.length by omega),List.take_of_length_le (l:=cs) (by omega),show n-o-cs.length=n- (o+cs.length) by omega]
theorem WOwn.over {w:World} {base g cap k:Nat} {cur:Array Value} {l:List WantB} (f:WantB) (hb:base≤g) (hg:w.heap[g]? =some (.cells cur 134 (0,0))) (hn:l.length≤cap) (hc:cap≤maxLen) (hs:cur.size=cap*5) (ht:cur.toList.take (l.length*5)=l.flatMap encW) (hk:k<l.length):
  WOwn (rowPut w g (k*5) f) base (.slice (some ⟨g,0,none⟩) l.length cap) (l.take k++f::l.drop (k+1))∧Below base w (rowPut w g (k*5) f):=by
 have e1:=setCell_eq_setRow w g (k*5) cur 134 (0,0) (.string f.name) hg;have g1:=setRow_block (c':=cur.setIfInBounds (k*5) (.string f.name)) hg;have e2:=setCell_eq_setRow _ g (k*5+1) _ 134 (0,0) (.string f.url) g1;have g2:=setRow_block (c':=(cur.setIfInBounds (k*5) (.string f.name)).setIfInBounds (k*5+1) (.string f.url)) g1;have e3:=setCell_eq_setRow _ g (k*5+2) _ 134 (0,0) (.string f.kind) g2;have g3:=setRow_block (c':=((cur.setIfInBounds (k*5) (.string f.name)).setIfInBounds (k*5+1) (.string f.url)).setIfInBounds (k*5+2) (.string f.kind)) g2;have e4:=setCell_eq_setRow _ g (k*5+3) _ 134 (0,0) (.int .i64 f.strip) g3;have g4:=setRow_block (c':=(((cur.setIfInBounds (k*5) (.string f.name)).setIfInBounds (k*5+1) (.string f.url)).setIfInBounds (k*5+2) (.string f.kind)).setIfInBounds (k*5+3) (.int .i64 f.strip)) g3;have e5:=setCell_eq_setRow _ g (k*5+4) _ 134 (0,0) (.int .i64 f.sum) g4;have g5:=setRow_block (c':=((((cur.setIfInBounds (k*5) (.string f.name)).setIfInBounds (k*5+1) (.string f.url)).setIfInBounds (k*5+2) (.string f.kind)).setIfInBounds (k*5+3) (.int .i64 f.strip)).setIfInBounds (k*5+4) (.int .i64 f.sum)) g4;unfold rowPut;rw [e1,e2,e3,e4,e5];refine ⟨?_,below_setRow (below_setRow (below_setRow (below_setRow (below_setRow (Below.refl _ _) hb _) hb _) hb _) hb _) hb _⟩;have hlen:(l.take k++f::l.drop (k+1)).length=l.length:=by simp;omega
 have hL:cur.toList.length=cap*5:=by rw [Array.length_toList,hs]
 have hM:(((((cur.setIfInBounds (k*5) (.string f.name)).setIfInBounds (k*5+1) (.string f.url)).setIfInBounds (k*5+2) (.string f.kind)).setIfInBounds (k*5+3) (.int .i64 f.strip)).setIfInBounds (k*5+4) (.int .i64 f.sum)).toList.take (l.length*5)=(l.take k++f::l.drop (k+1)).flatMap encW:=by
  rw [Array.toList_setIfInBounds,Array.toList_setIfInBounds,Array.toList_setIfInBounds,Array.toList_setIfInBounds,Array.toList_setIfInBounds,set5 _ _ _ _ _ _ _ (by omega),wsplice_take _ _ _ _ (by show k*5+5≤_;omega) (by omega),ht];unfold splice;rw [List.flatMap_append,List.flatMap_cons,←wenc_take,←wenc_drop,show k*5+[Value.string f.name,.string f.url,.string f.kind,.int .i64 f.strip,.int .i64 f.sum].length=(k+1)*5 by show _+5=_;omega]
 show World.ownsRow _ _ _ _ _ _ _;rw [hlen];exact ⟨by rw [wenc_len,hlen],.inr ⟨g,cap,_,rfl,hb,g5,hn,hc,by simp [hs],hM⟩⟩
section
open Go.Lib
theorem set1_grow (x y:WantB) (w:World):Calls Tryz.prog 157 (#[.agg (encW x).toArray,.agg (encW y).toArray]++#[]) w fun e w'=>e=.returned (.int .i64 (cfW x y))∧∃q os',w'=grow (w.drewN q) os':=by
 show Calls Tryz.prog 157 #[.agg (encW x).toArray,.agg (encW y).toArray] w _;go_enter Tryz.func157,Tryz.ntmps157;go_wp2_with fail;refine (Tryz.strings_Compare x.name y.name _).mono ?_;rintro e w' ⟨rfl,rfl⟩;go_wp2_with fail;go_ret;exact ⟨rfl,0,_,by rw [alloc_eq_grow,alloc_eq_grow,grow_grow];rfl⟩
theorem wsearch_any (f:WantB) (v:Value) (l:List WantB) (w:World) (hl:l.length≤10000) (hv:WRow w v l) (hA:l.Pairwise wLt):
  Calls Tryz.prog 156 #[v,.agg (encW f).toArray,.func (.func 157) #[] #[]] w (WSearchPost l f w):=
 wsearch_gen f 157 (enters_of Tryz.func157 (by kernel_rfl) rfl) (fun x w=>set1_grow x f w) v l w hl hv hA
end
def LSetPost (E:Nat→Addr) (r:Er×List WantB) (w:World) (e:Ending) (w':World):Prop:=
 (∃v ev,e=.returned (.tuple #[v,ev])∧Hid (IsErr E w' ev r.1)∧Hid (WOwn w' w.heap.size v r.2))∧Below w.heap.size w w'
theorem LSetPost.none {E:Nat→Addr} {er:Er} {w w':World} {ev:Value} (h:Hid (IsErr E w' ev er)) (hb:Below w.heap.size w w'):LSetPost E (er,[]) w (.returned (.tuple #[.slice none 0 0,ev])) w':=
 ⟨⟨_,_,rfl,h,WOwn.nil _ _⟩,hb⟩
theorem IsErr.sentW {E:Nat→Addr} {w:World} {k:Nat} (hk:k<13):IsErr E w (sentV E k) ⟨k+1,none⟩:= .inr (.inl ⟨k,hk,rfl,rfl⟩)
theorem dropLk_from {l:List WantB} (n:ByteArray) (h:(lockEr l).code=0):dropLk l n=match findW n l with
  |none=>(⟨6,none⟩,[])
  |some k=>(⟨0,none⟩,l.eraseIdx k):=by unfold dropLk;rw [if_neg (by rw [h];decide)];cases findW n l<;>rfl
theorem setLk_from {l:List WantB} {x:WantB} (h:(lockEr l).code=0) (h2:wantE x=0):setLk l x=if (findW x.name l).isSome=true then (⟨0,none⟩,l.take (placeW l x)++x::l.drop (placeW l x+1))
 else if 20≤l.length then (⟨8,none⟩,[]) else (⟨0,none⟩,l.take (placeW l x)++x::l.drop (placeW l x)):=by unfold setLk;rw [if_neg (by rw [h];decide),if_neg (by rw [h2];decide)]
theorem lockDrop_any {E:Nat→Addr} (v:Value) (l:List WantB) (p:ByteArray) (w:World) (hv:WArg w v l) (hl:l.length≤10000) (hS:∀f∈l,SmallW f) (hE:FEnv E w):
  Calls Tryz.prog 120 #[v,.string p] w (LSetPost E (dropLk l p) w):=by
 have HV:=Lib.hid hv;have HE:=Lib.hid hE;have C:=Lib.hid (lockCheck_any v l w hv.1 (by omega) hS hE);obtain ⟨ao,cap,rfl⟩:=hv.1.len;clear hE hS hv;go_enter Tryz.func120,Tryz.ntmps120;go_wp2_with fail;refine C.out.mono ?_;clear C;rintro e w1 ⟨⟨ev,rfl,HI⟩,hb1⟩;by_cases hz:(lockEr l).code=0;rotate_left
 ·obtain ⟨t,x,rfl⟩:=HI.out.some_inv hz;have HY:Hid (dropLk l p=(lockEr l,[])):=by show _=_;unfold dropLk;rw [if_pos hz]
  clear hz;go_wp2_with fail;go_ret2;rw [HY.out];exact LSetPost.none HI hb1
 ·obtain rfl:ev=.nilIface:=HI.out.nil0 hz;have HD:=Lib.hid (dropLk_from p hz);have C:=Lib.hid (lockFind_any _ l p w1 (HV.out.1.ext hb1) (by omega));have B1:=Lib.hid hb1;clear hz HI hb1;go_wp2_with fail;refine C.out.mono ?_;clear C;rintro e w2 ⟨rfl,hb2⟩;have B2:=Lib.hid (B1.out.trans (hb2.mono B1.out.size));clear hb2
  cases hf:findW p l with
  |none=>
   have HY:Hid (dropLk l p=(⟨6,none⟩,[])):=by show _=_;rw [HD.out,hf]
   rw [show findI none= -1 from rfl];have ex:w2.cell? ⟨5,0,none⟩=some (sentV E 5):=(HE.out.ext B2.out).1.err 5 (by decide);clear hf HD;go_wp2_with fail;go_quiet (fail);go_wp2_with fail;go_ret2;rw [HY.out];exact LSetPost.none (IsErr.sentW (by decide)) (B2.out.trans ((below_drewN _ _ _).mono B2.out.size))
  |some k=>
   have hk:=(findW_some hf).1;have HY:Hid (dropLk l p=(⟨0,none⟩,l.take k++l.drop (k+1))):=by show _=_;rw [HD.out,hf];simp only;rw [List.eraseIdx_eq_take_drop_succ]
   rw [show findI (some k)=(k:Int) from rfl];have C:=Lib.hid (cloneWants_any _ l w2 (by omega) (HV.out.ext B2.out));have hk0:¬((k:Int)<0):=by omega
   clear hf HD;go_wp2_with fail;refine C.out.mono ?_;clear C;rintro e w3 ⟨⟨ov,rfl,HO⟩,hb3⟩;have B3:=Lib.hid (B2.out.trans (hb3.mono B2.out.size));have HO3:=Lib.hid (WOwn.low HO.out B2.out.size);have C:=Lib.hid (deleteWant_any l w.heap.size k ov w3 hk (by omega) HO3.out);clear HO hb3;go_wp2_with fail;refine C.out.mono ?_;clear C;rintro e w4 ⟨⟨o4,rfl,HO4⟩,hb4⟩;go_wp2_with fail;go_ret2;rw [HY.out];exact ⟨⟨_,_,rfl,.inl ⟨rfl,rfl⟩,HO4⟩,B3.out.trans hb4⟩
theorem lockSet_any {E:Nat→Addr} (v:Value) (l:List WantB) (x:WantB) (w:World) (hv:WArg w v l) (hl:l.length≤10000) (hS:∀f∈l,SmallW f) (hx:SmallW x) (hE:FEnv E w):
  Calls Tryz.prog 118 #[v,.agg #[.string x.name,.string x.url,.string x.kind,.int .i64 x.strip,.int .i64 x.sum]] w (LSetPost E (setLk l x) w):=by
 obtain ⟨px,hpx⟩:∃px,w.heap.size=px:=⟨_,rfl⟩;obtain ⟨wx,hwx⟩:∃wx,w.alloc (.cells #[.string x.name,.string x.url,.string x.kind,.int .i64 x.strip,.int .i64 x.sum] 134)=wx:=⟨_,rfl⟩;have hbx:Below w.heap.size w wx:=by rw [←hwx];exact (Below.refl _ _).alloc (Nat.le_refl _) _
 have BX:=Lib.hid (show WBox wx px x by rw [←hwx,←hpx];exact WBox.new w x);have hpw:w.heap.size≤px:=Nat.le_of_eq hpx;have HB:=Lib.hid hbx;have HE:=Lib.hid hE;have HV:=Lib.hid hv;have HWX:=Lib.hid hwx;have HPX:=Lib.hid hpx;obtain ⟨ao,cap,rfl⟩:=hv.1.len;have C:=Lib.hid (lockCheck_any _ l wx (hv.1.ext hbx) (by omega) hS (hE.ext hbx));have hx1:=hx.1;have hx2:=hx.2.1;clear hpx hwx hbx hE hv hS hx;go_enter Tryz.func118,Tryz.ntmps118;go_wp2_with fail;rw [HWX.out,HPX.out];refine C.out.mono ?_;clear C;rintro e w1 ⟨⟨ev,rfl,HI⟩,hb1⟩;have B1:=Lib.hid (HB.out.trans (hb1.mono HB.out.size));have BX1:=Lib.hid (BX.out.ext hb1);clear hb1 BX;by_cases hz:(lockEr l).code=0;rotate_left
 ·obtain ⟨t,y,rfl⟩:=HI.out.some_inv hz;have HY:Hid (setLk l x=(lockEr l,[])):=by show _=_;unfold setLk;rw [if_pos hz]
  clear hz;go_wp2_with fail;go_ret2;rw [HY.out];exact LSetPost.none HI B1.out
 obtain rfl:ev=.nilIface:=HI.out.nil0 hz;have HZ:=Lib.hid hz;clear hz HI;obtain ⟨c0,c1,c2,c3,c4⟩:=BX1.out.cells;have C:=Lib.hid (wantCheck_any x w1 (by omega) (by omega) (HE.out.ext B1.out));go_wp2_with fail;refine C.out.mono ?_;clear C;rintro e w2 ⟨rfl,hb2⟩;have B2:=Lib.hid (B1.out.trans (hb2.mono B1.out.size));have BX2:=Lib.hid (BX1.out.ext hb2);clear hb2 c0 c1 c2 c3 c4 BX1
 cases hw:wantE x with
 |succ c=>
  have hle:c<13:=by have:=wantE_le x;omega
  have HY:Hid (setLk l x=(⟨c+1,none⟩,[])):=by show _=_;unfold setLk;rw [if_neg (by rw [HZ.out];decide),if_pos (by omega),hw]
  rw [show errV E (c+1)=sentV E c from rfl];clear hw;go_wp2_with fail;go_ret2;rw [HY.out];exact LSetPost.none (IsErr.sentW hle) B2.out
 |zero=>
 have HD:=Lib.hid (setLk_from HZ.out hw);have hok:=Lib.hid ((lockOk_iff l).1 HZ.out);have hl20:=hok.out.few;rw [show errV E 0=.nilIface from rfl];clear hw;have C:=Lib.hid (cloneWants_any _ l w2 (by omega) (HV.out.ext B2.out));go_wp2_with fail;refine C.out.mono ?_;clear C;rintro e w3 ⟨⟨ov,rfl,HO⟩,hb3⟩;have B3:=Lib.hid (B2.out.trans (hb3.mono B2.out.size));have BX3:=Lib.hid (BX2.out.ext hb3);have hpx3:px<w2.heap.size:=BX2.out.lt;clear hb3 BX2;obtain ⟨c0,c1,c2,c3,c4⟩:=BX3.out.cells;have C:=Lib.hid (wsearch_any x (.slice ao l.length cap) l w3 (by omega) (HV.out.1.ext B3.out) hok.out.strict);go_wp2_with fail;refine C.out.mono ?_;clear C;rintro e w4 ⟨rfl,hb4⟩;have HF:=found_iff (w:=x) hok.out.strict;have hpl:placeW l x≤l.length:=(List.takeWhile_sublist _).length_le;rw [HF];have B4:=Lib.hid (B3.out.trans (hb4.mono B3.out.size));have BX4:=Lib.hid (BX3.out.ext hb4);have HO4:=Lib.hid (HO.out.ext hb4);clear hb4 c0 c1 c2 c3 c4 BX3 HF HO;obtain ⟨k,hk⟩:∃k,placeW l x=k:=⟨_,rfl⟩;rw [hk] at HD hpl⊢;obtain ⟨c0,c1,c2,c3,c4⟩:=BX4.out.cells;obtain ⟨oo,oc,rfl⟩:=HO4.out.shape;have HFI:=Lib.hid (found_iff (w:=x) hok.out.strict);rw [hk] at HFI;have HOw:=Lib.hid (WOwn.low HO4.out B2.out.size)
 cases hf:(findW x.name l).isSome with
 |true=>
  have HY:Hid (setLk l x=(⟨0,none⟩,l.take k++x::l.drop (k+1))):=by show _=_;rw [HD.out,hf,if_pos rfl]
  have hkl:k<l.length:=by
   have h0:=HFI.out;rw [hf] at h0;have h1:=of_decide_eq_true h0;rcases Nat.lt_or_ge k l.length with h|h
   ·exact h
   ·rw [List.drop_eq_nil_of_le h] at h1;cases h1
  rcases HO4.out.2 with ⟨_,h0⟩|⟨g,cap2,cur,e0,hgb,hg,hn,hc,hs,ht⟩
  ·omega
  obtain ⟨rfl,rfl⟩:oo=some ⟨g,0,none⟩∧oc=cap2:=by injection e0 with a _ b;exact ⟨a,b⟩
  have r0:(w4.cell? ⟨g,k*5,none⟩).isSome=true:=by rw [Lib.cell_of_heap hg,Array.getElem?_eq_getElem (by omega)];rfl
  obtain ⟨u0,r0⟩:=Option.isSome_iff_exists.1 r0;have r1:(w4.cell? ⟨g,k*5+1,none⟩).isSome=true:=by rw [Lib.cell_of_heap hg,Array.getElem?_eq_getElem (by omega)];rfl
  obtain ⟨u1,r1⟩:=Option.isSome_iff_exists.1 r1;have r2:(w4.cell? ⟨g,k*5+2,none⟩).isSome=true:=by rw [Lib.cell_of_heap hg,Array.getElem?_eq_getElem (by omega)];rfl
  obtain ⟨u2,r2⟩:=Option.isSome_iff_exists.1 r2;have r3:(w4.cell? ⟨g,k*5+3,none⟩).isSome=true:=by rw [Lib.cell_of_heap hg,Array.getElem?_eq_getElem (by omega)];rfl
  obtain ⟨u3,r3⟩:=Option.isSome_iff_exists.1 r3;have r4:(w4.cell? ⟨g,k*5+4,none⟩).isSome=true:=by rw [Lib.cell_of_heap hg,Array.getElem?_eq_getElem (by omega)];rfl
  obtain ⟨u4,r4⟩:=Option.isSome_iff_exists.1 r4;have z0:w4.frozen? ⟨g,k*5,none⟩=false:=Lib.frozen_of_heap hg _;have z1:w4.frozen? ⟨g,k*5+1,none⟩=false:=Lib.frozen_of_heap hg _;have z2:w4.frozen? ⟨g,k*5+2,none⟩=false:=Lib.frozen_of_heap hg _;have z3:w4.frozen? ⟨g,k*5+3,none⟩=false:=Lib.frozen_of_heap hg _;have z4:w4.frozen? ⟨g,k*5+4,none⟩=false:=Lib.frozen_of_heap hg _;have OV:=Lib.hid (WOwn.over x hgb hg hn hc hs ht hkl);have hlen:(l.take k++x::l.drop (k+1)).length=l.length:=by simp;omega
  have HLE:=Lib.hid hlen;clear hg hs ht hn hc e0 hlen hf HD HFI;go_wp2_with fail;go_ret2;have ov:=OV.out;unfold rowPut at ov;rw [HY.out];refine ⟨⟨_,_,rfl,.inl ⟨rfl,rfl⟩,?_⟩,B4.out.trans (ov.2.mono B2.out.size)⟩;exact WOwn.low ov.1 B2.out.size
 |false=>
  have HY:=HD.out;rw [hf,if_neg (by simp)] at HY;by_cases h20:20≤l.length
  ·rw [if_pos h20] at HY;have HY2:=Lib.hid HY;have cF:w4.cell? ⟨7,0,none⟩=some (sentV E 7):=(HE.out.ext B4.out).1.err 7 (by decide);clear HY HD hf;go_wp2_with fail;go_quiet (fail);go_wp2_with fail;go_ret2;rw [HY2.out];exact LSetPost.none (IsErr.sentW (by decide)) (B4.out.trans ((below_drewN _ _ _).mono B4.out.size))
  ·rw [if_neg h20] at HY;have HY2:=Lib.hid HY;clear HY HD hf HFI;have hba:Below w4.heap.size w4 (w4.alloc (.cells (encW x).toArray 134)):=(Below.refl _ _).alloc (Nat.le_refl _) _;have hga:=heap_alloc_new w4 (.cells (encW x).toArray 134);have hlt:∀q,(Value.slice oo l.length oc).ownBlock=some q→q<w4.heap.size:=fun q hq=>(World.ownsRow.lt HO4.out q hq).2
   have C:=Lib.hid (insertWants_any x l w.heap.size w4.heap.size k (.slice oo l.length oc) (w4.alloc (.cells (encW x).toArray 134)) hpl (by omega) (HOw.out.ext hba) hga (fun e=>by have:=hlt _ e.symm;omega) (by simp;have:=B4.out.size;omega));obtain ⟨wa,hwa⟩:∃wa,w4.alloc (.cells (encW x).toArray 134)=wa:=⟨_,rfl⟩;rw [hwa] at C hba;have HWA:=Lib.hid hwa;have HBA:=Lib.hid hba;clear hga hlt hwa hba;go_wp2_with fail;rw [HWA.out];refine C.out.mono ?_;rintro e w5 ⟨⟨o2,rfl,H2⟩,hb5⟩;go_wp2_with fail;go_ret2;rw [HY2.out];exact ⟨⟨_,_,rfl,.inl ⟨rfl,rfl⟩,H2⟩,(B4.out.trans (HBA.out.mono B4.out.size)).trans hb5⟩
structure ShEnv (E:Nat→Addr) (B:Nat) (w:World):Prop where
 env:∀W,Below B w W→FtEnv E W
 low:∀k,k<13→gE k<B
theorem ShEnv.ext {E:Nat→Addr} {B:Nat} {w w':World} (h:ShEnv E B w) (hb:Below B w w'):ShEnv E B w':=⟨fun W hW=>h.env W (hb.trans hW),h.low⟩
def ErPost (E:Nat→Addr) (B nb sb tn:Nat) (n:NetB) (r:Er×ShopS×TapeS) (w:World) (e:Ending) (w':World):Prop:=
 (∃ev,e=.returned ev∧Hid (IsErr E w' ev r.1))∧Hid (ProgIs w' B nb sb n r.2.1 r.2.2 tn)∧Hid (Keeps PRow B w w')
def wUnwantB:ByteArray:=⟨#[117,110,119,97,110,116,32]⟩
theorem bl_unwant (s:ByteArray):bl (wUnwantB++s)=recW wUnwant (bl s):=by rw [bl_append];rfl
theorem unwantS_no {S:ShopS} {t:TapeS} {n:ByteArray} (h:(dropLk S.lock n).1.code≠0):unwantS S t n=((dropLk S.lock n).1,S,t):=by unfold unwantS;rw [if_pos h]
theorem unwantS_full {S:ShopS} {t:TapeS} {n:ByteArray} (h:(dropLk S.lock n).1.code=0) (h2:(appT t (recW wUnwant (bl n))).1≠0):unwantS S t n=(⟨(appT t (recW wUnwant (bl n))).1,none⟩,S,(appT t (recW wUnwant (bl n))).2):=by unfold unwantS;rw [if_neg (by omega),if_pos h2]
theorem unwantS_ok2 {S:ShopS} {t:TapeS} {n:ByteArray} (h:(dropLk S.lock n).1.code=0) (h2:(appT t (recW wUnwant (bl n))).1=0):unwantS S t n=(⟨0,none⟩,{S with lock:=(dropLk S.lock n).2},(appT t (recW wUnwant (bl n))).2):=by unfold unwantS;rw [if_neg (by omega),if_neg (by omega)]
theorem appT_le (t:TapeS) (s:List UInt8):(appT t s).1≤13:=by
 unfold appT;split
 ·exact Nat.le_of_ble_eq_true rfl
 ·split
  ·exact Nat.le_of_ble_eq_true rfl
  ·show (if _ then 0 else 13)≤13;split<;>exact Nat.le_of_ble_eq_true rfl
theorem shopUnwant_any {E:Nat→Addr} (B nb sb tn:Nat) (n:NetB) (S:ShopS) (t:TapeS) (nm:ByteArray) (w:World) (h:ProgIs w B nb sb n S t tn) (hl:S.lock.length≤10000) (hS:∀f∈S.lock,SmallW f) (hn:nm.size≤1000000) (hBw:B≤w.heap.size) (hE:ShEnv E B w):
  Calls Tryz.prog 85 #[.pointer (some ⟨sb,0,none⟩),.string nm] w (ErPost E B nb sb tn n (unwantS S t nm) w):=by
 obtain ⟨hb,tb,rv,lv,rl,hA⟩:=h;obtain ⟨c0,c1,c2,c3,c4⟩:=hA.cells;have HA:=Lib.hid hA;have HE:=Lib.hid hE;have C:=lockDrop_any lv S.lock nm w hA.lock.arg hl hS (hE.env w (Below.refl _ _)).1.1.1;have hcat:¬(9223372036854775807<7+nm.size):=by omega
 obtain ⟨r,hr⟩:∃r,dropLk S.lock nm=r:=⟨_,rfl⟩;have KN:=Lib.hid (@unwantS_no S t nm);have KF:=Lib.hid (@unwantS_full S t nm);have KO:=Lib.hid (@unwantS_ok2 S t nm);rw [hr] at C KN KF KO;obtain ⟨er,l2⟩:=r;unfold LSetPost at C;dsimp only at C KN KF KO;have HC:=Lib.hid C;clear C hr hA hE;go_enter Tryz.func85,Tryz.ntmps85;go_wp2_with fail;refine HC.out.mono ?_;clear HC c0 c1 c2 c3 c4;rintro e w1 ⟨⟨v1,ev,rfl,HI,HO⟩,hb1⟩;obtain ⟨oa,oc,rfl⟩:=WOwn.shape HO.out;have hA1:=HA.out.below hb1;have HA1:=Lib.hid hA1;have hbB:=hb1.mono hBw;have hB1:B≤w1.heap.size:=Nat.le_trans hBw hb1.size;obtain ⟨c0,c1,c2,c3,c4⟩:=hA1.cells;have K1:Hid (Keeps PRow B w w1):=Keeps.of hb1 hBw;by_cases hz:er.code=0
 ·obtain rfl:ev=.nilIface:=HI.out.zero hz;have C:=tapeApp_any B tb t (wUnwantB++nm) w1 hA1.tape hB1 (HE.out.env w1 hbB).1.1.2 (HE.out.env w1 hbB).env HE.out.low;rw [bl_unwant] at C;have hle:=appT_le t (recW wUnwant (bl nm));obtain ⟨ar,har⟩:∃ar,appT t (recW wUnwant (bl nm))=ar:=⟨_,rfl⟩;rw [har] at C KF KO hle;obtain ⟨ac,at2⟩:=ar;unfold TAppPost at C;dsimp only at C KF KO hle;have HC:=Lib.hid C;have HKF:=Lib.hid (KF.out hz);have HKO:=Lib.hid (KO.out hz);clear C har hz KN KF KO HI hA1;unfold wUnwantB at HC;go_wp2_with fail;refine HC.out.mono ?_;clear HC c0 c1 c2 c3 c4;rintro e w2 ⟨rfl,ht2,hk2⟩;have hA2:=HA1.out.turnTape hk2 ht2;have HA2:=Lib.hid hA2;have K2:=Lib.hid (K1.out.trans hk2.p_tape);have HO2:=Lib.hid (hk2.owns HO.out (fun cs=>kt_other _ (by decide) (by decide) cs _):WOwn w2 w.heap.size (.slice oa l2.length oc) l2);have hB2:B≤w2.heap.size:=Nat.le_trans hB1 hk2.below.size;obtain ⟨c0,c1,c2,c3,c4⟩:=hA2.cells;have f2:=hA2.froz 2;clear ht2 hk2 HO hA2
  cases ac with
  |zero=>
   have HY:=Lib.hid (HKO.out rfl);rw [show errV E 0=.nilIface from rfl];have hA3:=HA2.out.setLock (WOwn.low HO2.out hBw) hB2;have K3:=K2.out.trans (HA2.out.store 2 (.slice oa l2.length oc) hB2).p_shop;have HA3:=Lib.hid hA3;have HK3:=Lib.hid K3;clear HKF HKO hA3 K3;go_wp2_with fail;go_ret;rw [HY.out];exact ⟨⟨_,rfl,.inl ⟨rfl,rfl⟩⟩,⟨_,_,_,_,_,HA3.out⟩,HK3⟩
  |succ ac=>
   have HY:=Lib.hid (HKF.out (Nat.succ_ne_zero _));rw [show errV E (ac+1)=sentV E ac from rfl];clear HKF HKO;go_wp2_with fail;go_ret;rw [HY.out];exact ⟨⟨_,rfl,errV_is hle⟩,⟨_,_,_,_,_,HA2.out⟩,K2⟩
 ·have HY:=Lib.hid (KN.out hz);obtain ⟨ty,y,rfl⟩:=HI.out.some_inv hz;clear hz KN KF KO hA1;go_wp2_with fail;go_ret;rw [HY.out];exact ⟨⟨_,rfl,HI⟩,⟨_,_,_,_,_,HA1.out⟩,K1⟩
def CdPost (E:Nat→Addr) (B nb sb tn:Nat) (n:NetB) (r:Nat×ShopS×TapeS) (w:World) (e:Ending) (w':World):Prop:=
 e=.returned (errV E r.1)∧r.1≤13∧Hid (ProgIs w' B nb sb n r.2.1 r.2.2 tn)∧Hid (Keeps PRow B w w')
def wHoldB:ByteArray:=⟨#[104,111,108,100,32]⟩
def wDropB:ByteArray:=⟨#[100,114,111,112,32]⟩
theorem bl_hold (s:ByteArray):bl (wHoldB++s)=recW wHold (bl s):=by rw [bl_append];rfl
theorem bl_drop (s:ByteArray):bl (wDropB++s)=recW wDrop (bl s):=by rw [bl_append];rfl
theorem holdS_has {S:ShopS} {t:TapeS} {l:List FileB} (h:(getL S.held.trees (treeSum l)).isSome=true):holdS S t l=(0,S,t):=by unfold holdS;rw [if_pos (by rw [has_get];exact h)]
theorem holdS_full {S:ShopS} {t:TapeS} {l:List FileB} (h:getL S.held.trees (treeSum l)=none) (h2:(appT t (recW wHold (packL l))).1≠0):holdS S t l=((appT t (recW wHold (packL l))).1,S,(appT t (recW wHold (packL l))).2):=by
 unfold holdS;rw [if_neg (by rw [has_get,h];simp),if_pos h2]
theorem holdS_done {S:ShopS} {t:TapeS} {l:List FileB} (h:getL S.held.trees (treeSum l)=none) (h2:(appT t (recW wHold (packL l))).1=0):holdS S t l=(0,{S with held:=(putH S.held l).2.2},(appT t (recW wHold (packL l))).2):=by
 unfold holdS;rw [if_neg (by rw [has_get,h];simp),if_neg (by omega)]
theorem putH_fine {h:HeldB} {l:List FileB} (hl:(treeEr l).code=0) (hm:h.most≠0):(putH h l).1=⟨0,none⟩:=by
 unfold putH;rw [if_neg (by rw [hl];simp),if_neg hm];split<;>rfl
theorem packT_right {l:List FileB} (h:(treeEr l).code=0):packT l=packL l:=by unfold packT;rw [if_pos h]
theorem shopHold_any {E:Nat→Addr} (B nb sb tn:Nat) (n:NetB) (S:ShopS) (t:TapeS) (Bf:Nat) (v:Value) (l:List FileB) (w:World) (h:ProgIs w B nb sb n S t tn) (hv:FOwn w Bf v l) (hr:(treeEr l).code=0) (hm:S.held.most≠0) (hBw:B≤w.heap.size) (hE:ShEnv E B w):
  Calls Tryz.prog 124 #[.pointer (some ⟨sb,0,none⟩),v] w (CdPost E B nb sb tn n (holdS S t l) w):=by
 obtain ⟨hll,hls⟩:=right_len hr;obtain ⟨hb,tb,rv,lv,rl,hA⟩:=h;have HA:=Lib.hid hA;have HE:=Lib.hid hE;have HV:=Lib.hid hv;have HLS:=Lib.hid hls;have C:=packMake_any v l w hv.row hll hls (hE.env w (Below.refl _ _)).1.1;unfold PackPost at C;have hpl:=packT_len l hls;rw [packT_right hr] at C hpl;have hsz:(packL l).length≤1320000000:=by have:=Nat.mul_le_mul_left 132000 hll;omega
 have HSM:Hid (treeSum l=((sumL (packL l):Nat):Int)):=by show _=_;unfold treeSum;rw [packT_right hr]
 have HSL:(sumL (packL l))<1000000007:=sumL_lt _;have HHAS:=Lib.hid (@holdS_has S t l);have HFULL:=Lib.hid (@holdS_full S t l);have HDONE:=Lib.hid (@holdS_done S t l);have HPF:=Lib.hid (@putH_fine S.held l hr hm);have HC:=Lib.hid C;have HR:=Lib.hid hr;obtain ⟨va,vc,rfl⟩:=row_shape hv;clear C hA hE hv hls hr hm hpl;go_enter Tryz.func124,Tryz.ntmps124;go_wp2_with fail;refine HC.out.mono ?_;clear HC;rintro e w1 ⟨⟨tx,ev,rfl,HT,HI⟩,hb1⟩;obtain rfl:ev=.nilIface:=HI.out.zero HR.out;have HA1:=Lib.hid (HA.out.below hb1);have HV1:Hid (FOwn w1 Bf (.slice va l.length vc) l):=FOwn.ext HV.out hb1;have hbB:=hb1.mono hBw;have hB1:B≤w1.heap.size:=Nat.le_trans hBw hb1.size;have K1:Hid (Keeps PRow B w w1):=Keeps.of hb1 hBw;have hts:tx.size≤1320000000:=by rw [←bl_length,HT.out];exact hsz
 have hcat:¬(9223372036854775807<5+tx.size):=by omega
 have hd1:Below w1.heap.size w1 w1.drew:=below_drewN _ _ 1;obtain ⟨q,hq⟩:∃q:Int,((sumL (packL l):Nat):Int)=q:=⟨_,rfl⟩;have hq1:I64 q:=⟨by omega,by omega⟩;have CS:Hid (∀W:World,Calls Tryz.prog 116 #[.string tx] W fun e w'=>e=.returned (.int .i64 q)∧W=w'):=fun W=>by
  have:=sumOf_any tx W (by omega);rw [HT.out,hq] at this;exact this
 have CG:Hid (∀W,Below w1.heap.size w1 W→Calls Tryz.prog 126 #[.pointer (some ⟨hb,0,none⟩),.int .i64 q] W (HGetPost E (getL S.held.trees q) W)):=fun W hW=>
  heldGet_any B hb S.held q hq1 W (HA1.out.below hW).held (HE.out.env W (hbB.trans (hW.mono hB1))).env
 have K3:Hid (∀W,Below w1.heap.size w1 W→W.cell? ⟨sb,3,none⟩=some (.pointer (some ⟨hb,0,none⟩))):=fun W hW=>(HA1.out.below hW).cells.2.2.2.1
 have c3:=K3.out w1 (Below.refl _ _);have HQ:Hid (treeSum l=q):=by show _=_;rw [HSM.out,hq]
 obtain ⟨o,ho⟩:∃o,getL S.held.trees q=o:=⟨_,rfl⟩;have HO:=Lib.hid ho;rw [ho] at CG;clear ho hq HSM hts hsz HSL HI hb1 HA HV
 cases o with
 |some l2=>
  have HY:Hid (holdS S t l=(0,S,t)):=HHAS.out (by rw [HQ.out,HO.out];rfl);have CG1:Hid (∀W,Below w1.heap.size w1 W→Calls Tryz.prog 126 #[.pointer (some ⟨hb,0,none⟩),.int .i64 q] W fun e w'=>(∃oa oc,e=.returned (.tuple #[.slice oa l2.length oc,.nilIface]))∧Below W.heap.size W w'):=fun W hW=>by
   refine (CG.out W hW).mono ?_;rintro e w' ⟨⟨l3,ov,h1,rfl,h2⟩|⟨h1,_⟩,hb⟩
   ·obtain rfl:=Option.some.inj h1;obtain ⟨oa,oc,rfl⟩:=row_shape h2.out;exact ⟨⟨oa,oc,rfl⟩,hb⟩
   ·cases h1
  clear CG HHAS HFULL HDONE HPF;go_wp2_with fail;go_region_held3 (fun W:World=>W.cell? ⟨sb,3,none⟩=some (.pointer (some ⟨hb,0,none⟩))) (first|exact c3|exact K3.out _ hb2|exact K3.out _ hd1)
   (first
    |(go_at_call 126;refine (CG1.out _ hd1).mono ?_;rintro e w2 ⟨⟨oa,oc,rfl⟩,hb2'⟩;have hb2:=hd1.trans (hb2'.mono hd1.size))
    |(go_at_call 116;refine (CS.out _).mono ?_;rintro e w9 ⟨rfl,rfl⟩)
    |fail)
  all_goals
   have HA2:=Lib.hid (HA1.out.below hb2);have K2:Hid (Keeps PRow B w w2):=K1.out.trans (Keeps.of hb2 hB1);clear HA1 HV1 K1 hb2 hb2' CS CG1 K3 c3 hd1;go_wp2_with fail;go_ret;rw [HY.out];exact ⟨rfl,Nat.zero_le _,⟨_,_,_,_,_,HA2.out⟩,K2⟩
 |none=>
 have HN:Hid (getL S.held.trees (treeSum l)=none):=by show _=_;rw [HQ.out,HO.out]
 have CG1:Hid (∀W,Below w1.heap.size w1 W→Calls Tryz.prog 126 #[.pointer (some ⟨hb,0,none⟩),.int .i64 q] W fun e w'=>e=.returned (.tuple #[.slice none 0 0,sentV E 5])∧Below W.heap.size W w'):=fun W hW=>by
  refine (CG.out W hW).mono ?_;rintro e w' ⟨⟨l3,ov,h1,_⟩|⟨_,h2⟩,hb⟩
  ·cases h1
  ·exact ⟨h2,hb⟩
 clear CG;go_wp2_with fail;go_region_held3 (fun W:World=>W.cell? ⟨sb,3,none⟩=some (.pointer (some ⟨hb,0,none⟩))) (first|exact c3|exact K3.out _ hb2|exact K3.out _ hd1)
  (first
   |(go_at_call 126;refine (CG1.out _ hd1).mono ?_;rintro e w2 ⟨rfl,hb2'⟩;have hb2:=hd1.trans (hb2'.mono hd1.size))
   |(go_at_call 116;refine (CS.out _).mono ?_;rintro e w9 ⟨rfl,rfl⟩)
   |fail)
 all_goals
  have HA2:=Lib.hid (HA1.out.below hb2);have HV2:Hid (FOwn w2 Bf (.slice va l.length vc) l):=FOwn.ext HV1.out hb2;have hbB2:=hbB.trans (hb2.mono hB1);have hB2:B≤w2.heap.size:=Nat.le_trans hB1 hb2.size;have K2:Hid (Keeps PRow B w w2):=K1.out.trans (Keeps.of hb2 hB1);clear HA1 HV1 K1 hb2 hb2' CS CG1 K3 c3 hd1;have C:=tapeApp_any B tb t (wHoldB++tx) w2 HA2.out.tape hB2 (HE.out.env w2 hbB2).1.1.2 (HE.out.env w2 hbB2).env HE.out.low;rw [bl_hold,HT.out] at C;have hle:=appT_le t (recW wHold (packL l));have hkf:=HFULL.out HN.out;have hkd:=HDONE.out HN.out;obtain ⟨ar,har⟩:∃ar,appT t (recW wHold (packL l))=ar:=⟨_,rfl⟩;rw [har] at C hle hkf hkd;obtain ⟨ac,at2⟩:=ar;unfold TAppPost at C;dsimp only at C hle hkf hkd;unfold wHoldB at C;have HC:=Lib.hid C;have HKF:=Lib.hid hkf;have HKD:=Lib.hid hkd;obtain ⟨c0,c1,c2,c3,c4⟩:=HA2.out.cells;clear C har hkf hkd HHAS HFULL HDONE HO HQ HN;go_wp2_with fail;refine HC.out.mono ?_;clear HC c0 c1 c2 c3 c4;rintro e w3 ⟨rfl,ht3,hk3⟩;have HA3:=Lib.hid (HA2.out.turnTape hk3 ht3);have K3:=Lib.hid (K2.out.trans hk3.p_tape);have HV3:Hid (FOwn w3 Bf (.slice va l.length vc) l):=hk3.owns HV2.out (fun cs=>kt_other _ (by decide) (by decide) cs _);have hB3:B≤w3.heap.size:=Nat.le_trans hB2 hk3.below.size;have hbB3:=hbB2.trans hk3.below;obtain ⟨c0,c1,c2,c3,c4⟩:=HA3.out.cells;clear ht3 hk3 HA2 HV2 K2 HT hcat
  cases ac with
  |zero=>
   have HY:=Lib.hid (HKD.out rfl);rw [show errV E 0=.nilIface from rfl];have C:=heldPut_any B hb S.held (.slice va l.length vc) l w3 (fun w' hk=>FOwn.arg (hk.owns HV3.out (fun cs=>kh_other _ (by decide) cs _))) hll HLS.out HA3.out.held hB3 (HE.out.env w3 hbB3).1.1;obtain ⟨r,hrr⟩:∃r,putH S.held l=r:=⟨_,rfl⟩;rw [hrr] at C HPF HY;obtain ⟨er2,nn,hh2⟩:=r;unfold HPutPost at C;dsimp only at C HPF HY;have HC:=Lib.hid C;clear C hrr HKF HKD;go_wp2_with fail;refine HC.out.mono ?_;clear HC c0 c1 c2 c3 c4;rintro e w4 ⟨⟨ev,rfl,HI4⟩,hh4,hk4,_⟩;rw [HPF.out] at HI4;obtain rfl:ev=.nilIface:=HI4.zero rfl;have HA4:=Lib.hid (HA3.out.turnHeld hk4 hh4);have K4:=Lib.hid (K3.out.trans hk4.toKeeps.p_held);clear hh4 hk4 HI4;go_wp2_with fail;go_ret;rw [HY.out];exact ⟨rfl,Nat.zero_le _,⟨_,_,_,_,_,HA4.out⟩,K4⟩
  |succ ac=>
   have HY:=Lib.hid (HKF.out (Nat.succ_ne_zero _));rw [show errV E (ac+1)=sentV E ac from rfl];clear HKF HKD;go_wp2_with fail;go_ret;rw [HY.out];exact ⟨rfl,hle,⟨_,_,_,_,_,HA3.out⟩,K3⟩
theorem dropS_none {S:ShopS} {t:TapeS} {n:Int} (h:getL S.held.trees n=none):dropS S t n=(6,S,t):=by unfold dropS;rw [if_pos (by rw [has_get,h];rfl)]
theorem dropS_full {S:ShopS} {t:TapeS} {n:Int} (h:(getL S.held.trees n).isSome=true) (h2:(appT t (recW wDrop (Lib.decDigits n.toNat))).1≠0):dropS S t n=((appT t (recW wDrop (Lib.decDigits n.toNat))).1,S,(appT t (recW wDrop (Lib.decDigits n.toNat))).2):=by
 unfold dropS;rw [if_neg (by rw [has_get,h];simp),if_pos h2]
theorem dropS_done {S:ShopS} {t:TapeS} {n:Int} (h:(getL S.held.trees n).isSome=true) (h2:(appT t (recW wDrop (Lib.decDigits n.toNat))).1=0):dropS S t n=(0,{S with held:=(dropH S.held n).2},(appT t (recW wDrop (Lib.decDigits n.toNat))).2):=by
 unfold dropS;rw [if_neg (by rw [has_get,h];simp),if_neg (by omega)]
theorem getL_range {h:HeldB} (k:HeldOk h) {n:Int} (hn:(getL h.trees n).isSome=true):0≤n∧n<1000000007:=sums_range k (by rw [has_get];exact hn)
theorem dropH_fine {h:HeldB} {n:Int} (hn:(getL h.trees n).isSome=true):(dropH h n).1=0:=by
 unfold dropH;have h1:(ixOf n h.sums).isSome=true:=by rw [has_get];exact hn
 cases hx:ixOf n h.sums with
 |none=>rw [hx] at h1;cases h1
 |some k=>rfl
theorem shopDrop_any {E:Nat→Addr} (B nb sb tn:Nat) (n:NetB) (S:ShopS) (t:TapeS) (q:Int) (w:World) (h:ProgIs w B nb sb n S t tn) (hok:HeldOk S.held) (hq:I64 q) (hBw:B≤w.heap.size) (hE:ShEnv E B w):
  Calls Tryz.prog 91 #[.pointer (some ⟨sb,0,none⟩),.int .i64 q] w (CdPost E B nb sb tn n (dropS S t q) w):=by
 obtain ⟨hb,tb,rv,lv,rl,hA⟩:=h;have HA:=Lib.hid hA;have HE:=Lib.hid hE;have C:=heldGet_any B hb S.held q hq w hA.held (hE.env w (Below.refl _ _)).env;have HRG:=Lib.hid (@getL_range S.held hok q);have HDF:=Lib.hid (@dropH_fine S.held q);have HNO:=Lib.hid (@dropS_none S t q);have HFULL:=Lib.hid (@dropS_full S t q);have HDONE:=Lib.hid (@dropS_done S t q);obtain ⟨o,ho⟩:∃o,getL S.held.trees q=o:=⟨_,rfl⟩;rw [ho] at C HRG HDF HNO HFULL HDONE;have HC:=Lib.hid C;have HQ:=Lib.hid hq;obtain ⟨c0,c1,c2,c3,c4⟩:=hA.cells;clear C ho hA hE hok hq;go_enter Tryz.func91,Tryz.ntmps91;go_wp2_with fail;refine HC.out.mono ?_;clear HC c0 c1 c2 c3 c4;rintro e w1 ⟨hcase,hb1⟩;have HA1:=Lib.hid (HA.out.below hb1);have hbB:=hb1.mono hBw;have hB1:B≤w1.heap.size:=Nat.le_trans hBw hb1.size;have K1:Hid (Keeps PRow B w w1):=Keeps.of hb1 hBw;rcases hcase with ⟨l2,ov,rfl,rfl,HF2⟩|⟨rfl,rfl⟩
 rotate_left
 ·have HY:=Lib.hid (HNO.out rfl);clear HRG HDF HNO HFULL HDONE HA hb1;go_wp2_with fail;go_ret;rw [HY.out];exact ⟨rfl,Nat.le_of_ble_eq_true rfl,⟨_,_,_,_,_,HA1.out⟩,K1⟩
 ·obtain ⟨oa,oc,rfl⟩:=row_shape HF2.out;obtain ⟨q0,q1⟩:=HRG.out rfl;obtain ⟨m,rfl⟩:∃m:Nat,q=(m:Int):=⟨q.toNat,by omega⟩;have hkf:=HFULL.out rfl;have hkd:=HDONE.out rfl;have hdf:=HDF.out rfl;rw [show ((m:Int)).toNat=m from Int.toNat_natCast m] at hkf hkd;have hd1:Below w1.heap.size w1 w1.drew:=below_drewN _ _ 1;have CT:Hid (∀W,Below w1.heap.size w1 W→Calls Tryz.prog 82 #[.int .i64 m] W fun e w'=>(∃tx y:ByteArray,e=.returned (.string tx)∧(∀W:World,(Instr.slice 9 (.string tx) (some (.int .i64 1)) none none).run Tryz.prog W=.ok (.string y) W)∧Hid (bl y=Lib.decDigits m)∧¬(9223372036854775807<5+y.size))∧Below w1.heap.size w1 w'):=fun W hW=>by
   refine (sumText_ok m (by omega) W (HE.out.env W (hbB.trans (hW.mono hB1))).1.1.2).mono ?_;rintro e w' ⟨tx,rfl,htx,hs,hb⟩;have h2:=bl_length tx;rw [htx.out,List.length_cons] at h2;have hy:bl (tx.extract 1 tx.size)=Lib.decDigits m:=by
    rw [blExtract,htx.out,List.drop_one,List.tail_cons];exact List.take_of_length_le (by omega)
   have h3:=bl_length (tx.extract 1 tx.size);rw [hy] at h3;exact ⟨⟨tx,tx.extract 1 tx.size,rfl,slice_from tx 1 1 (by omega) rfl,hy,by omega⟩,hW.trans (hb.mono hW.size)⟩
  have CA:∀(W:World) (y:ByteArray),Below w1.heap.size w1 W→bl y=Lib.decDigits m→Calls Tryz.prog 33 #[.pointer (some ⟨tb,0,none⟩),.string (wDropB++y)] W (TAppPost E B tb (appT t (recW wDrop (Lib.decDigits m))) W):=fun W y hW hy=>by
   have hWB:=hbB.trans (hW.mono hB1);have:=tapeApp_any B tb t (wDropB++y) W (HA1.out.below hW).tape (Nat.le_trans hB1 hW.size) (HE.out.env W hWB).1.1.2 (HE.out.env W hWB).env HE.out.low;rwa [bl_drop,hy] at this
  have hle:=appT_le t (recW wDrop (Lib.decDigits m));obtain ⟨ar,har⟩:∃ar,appT t (recW wDrop (Lib.decDigits m))=ar:=⟨_,rfl⟩;rw [har] at CA hle hkf hkd;obtain ⟨ac,at2⟩:=ar;unfold TAppPost at CA;dsimp only at CA hle hkf hkd;unfold wDropB at CA;have HCA:=Lib.hid CA;have HKF:=Lib.hid hkf;have HKD:=Lib.hid hkd;have HDF2:=Lib.hid hdf;have K4:Hid (∀W,Below w1.heap.size w1 W→W.cell? ⟨sb,4,none⟩=some (.pointer (some ⟨tb,0,none⟩))):=fun W hW=>(HA1.out.below hW).cells.2.2.2.2
  have c4:=K4.out w1 (Below.refl _ _);clear CA har hkf hkd hdf HRG HDF HNO HFULL HDONE HA hb1 HF2;go_wp2_with fail;go_region_held3 (fun W:World=>W.cell? ⟨sb,4,none⟩=some (.pointer (some ⟨tb,0,none⟩))) (first|exact c4|exact K4.out _ hd1|exact K4.out _ hb2|exact d3)
   (first
    |(go_at_call 33;refine (HCA.out _ _ hb2 HY2.out).mono ?_;rintro e w3 ⟨rfl,ht3,hk3⟩;have d3:=((HA1.out.below hb2).turnTape hk3 ht3).cells.2.2.2.2)
    |(go_at_call 82;refine (CT.out _ hd1).mono ?_;rintro e w2 ⟨⟨tx,y,rfl,sl,HY2,hcat⟩,hb2⟩)
    |fail)
  all_goals
   have HA3:=Lib.hid ((HA1.out.below hb2).turnTape hk3 ht3);have K3:=Lib.hid ((K1.out.trans (Keeps.of hb2 hB1)).trans hk3.p_tape);have hB3:B≤w3.heap.size:=Nat.le_trans hB1 (Nat.le_trans hb2.size hk3.below.size);have hbB3:=(hbB.trans (hb2.mono hB1)).trans hk3.below;obtain ⟨c0,c1,c2,c3,c4'⟩:=HA3.out.cells;clear ht3 hk3 d3 CT HCA K4 HY2 hb2 c4
   cases ac with
   |zero=>
    have HY:=Lib.hid (HKD.out rfl);rw [show errV E 0=.nilIface from rfl];have C:=heldDrop_any B hb S.held (m:Int) HQ.out w3 HA3.out.held hB3 (HE.out.env w3 hbB3).env;obtain ⟨r,hrr⟩:∃r,dropH S.held (m:Int)=r:=⟨_,rfl⟩;rw [hrr] at C HDF2 HY;obtain ⟨c,hh2⟩:=r;unfold HDropPost at C;dsimp only at C HDF2 HY;have HC:=Lib.hid C;clear C hrr HKF HKD;go_wp2_with fail;refine HC.out.mono ?_;clear HC c0 c1 c2 c3 c4';rintro e w4 ⟨rfl,hh4,hk4⟩;rw [HDF2.out];rw [show errV E 0=.nilIface from rfl];have HA4:=Lib.hid (HA3.out.turnHeld hk4 hh4);have K4:=Lib.hid (K3.out.trans hk4.toKeeps.p_held);clear hh4 hk4;go_wp2_with fail;go_ret;rw [HY.out];exact ⟨rfl,Nat.zero_le _,⟨_,_,_,_,_,HA4.out⟩,K4⟩
   |succ ac=>
    have HY:=Lib.hid (HKF.out (Nat.succ_ne_zero _));rw [show errV E (ac+1)=sentV E ac from rfl];clear HKF HKD;go_wp2_with fail;go_ret;rw [HY.out];exact ⟨rfl,hle,⟨_,_,_,_,_,HA3.out⟩,K3⟩
theorem shopBundle_any {E:Nat→Addr} (B nb sb tn:Nat) (n:NetB) (S:ShopS) (t:TapeS) (w:World) (h:ProgIs w B nb sb n S t tn) (hl:S.lock.length≤10000) (hS:∀f∈S.lock,SmallW f) (hE:KEnv E w):
  Calls Tryz.prog 93 #[.pointer (some ⟨sb,0,none⟩)] w (LBundPost E (bundleLk S.held S.lock) w):=by
 obtain ⟨hb,tb,rv,lv,rl,hA⟩:=h;have C:=lockBundle_any B hb S.held lv S.lock w.drew (hA.below (below_drewN _ _ 1)).held (hA.below (below_drewN _ _ 1)).lock.arg.1 (by omega) hS (hE.ext (below_drewN _ _ 1));obtain ⟨c0,c1,c2,c3,c4⟩:=hA.cells;unfold LBundPost at C⊢;have HC:=Lib.hid C;have hdr:Below w.heap.size w w.drew:=below_drewN _ _ 1;have K0:Hid (∀W,Below w.heap.size w W→W.cell? ⟨sb,3,none⟩=some (.pointer (some ⟨hb,0,none⟩))∧W.cell? ⟨sb,2,none⟩=some lv):=fun W hW=>⟨(hA.below hW).cells.2.2.2.1,(hA.below hW).cells.2.2.1⟩
 clear C hA hE;go_enter Tryz.func93,Tryz.ntmps93;go_wp2_with fail;go_region_held3 (fun W:World=>W.cell? ⟨sb,3,none⟩=some (.pointer (some ⟨hb,0,none⟩))∧W.cell? ⟨sb,2,none⟩=some lv) (first|exact ⟨c3,c2⟩|exact K0.out _ hb1w|exact K0.out _ hdr)
  (first
   |(go_at_call 129;refine HC.out.mono ?_;rintro e w1 ⟨⟨tx,ev,rfl,HT,HI⟩,hb1⟩;have hb1w:=hdr.trans (hb1.mono hdr.size))
   |fail)
 all_goals
  go_wp2_with fail;go_ret2;exact ⟨⟨_,_,rfl,HT,HI⟩,hb1w⟩
end Go.Proofs.YtaabgmbjmfjdjaaGreatDoor
