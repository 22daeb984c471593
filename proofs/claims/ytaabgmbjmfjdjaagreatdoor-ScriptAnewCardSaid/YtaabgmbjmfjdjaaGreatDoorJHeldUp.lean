import Derived.Test.YtaabgmbjmfjdjaaGreatDoorJRowedEtc
import Derived.Maps.OwnSet
import Derived.Test.YtaabgmbjmfjdjaaGreatDoorJPackedUpEtc
import Derived.Lib.Slices
import Derived.Test.YtaabgmbjmfjdjaaGreatDoorJShelf
import Derived.Sort.OwnSortedInts
import Derived.Lib.LazyBuf
import Derived.Test.YtaabgmbjmfjdjaaGreatDoorJPlainly
import Derived.Test.YtaabgmbjmfjdjaaGreatDoorProg
import Derived.WalkArith
import Derived.Test.YtaabgmbjmfjdjaaGreatDoorJErrors
import Derived.IntWalk
import Derived.Deep.RegionLaw
namespace Go.Proofs.YtaabgmbjmfjdjaaGreatDoor
open Go Go.RowKit Go.Maps Go.Sort
set_option maxHeartbeats 1000000
set_option maxRecDepth 100000
structure Keeps (K:Obj→Prop) (B:Nat) (w w':World):Prop where
 below:Below B w w'
 keep:∀(k:Nat) (o:Obj),w.heap[k]? =some o→¬K o→w'.heap[k]? =some o
theorem Keeps.refl (K:Obj→Prop) (B:Nat) (w:World):Keeps K B w w:=⟨Below.refl _ _,fun _ _ h _=>h⟩
theorem Keeps.trans {K:Obj→Prop} {B:Nat} {a b c:World} (h:Keeps K B a b) (k:Keeps K B b c):Keeps K B a c:=⟨h.below.trans k.below,fun i o hi ho=>k.keep i o (h.keep i o hi ho) ho⟩
theorem Keeps.of {K:Obj→Prop} {B:Nat} {w w':World} (h:Below w.heap.size w w') (hB:B≤w.heap.size):Keeps K B w w':=⟨h.mono hB,fun k o hk _=>by rw [h.block k (Array.getElem?_eq_some_iff.1 hk).1];exact hk⟩
theorem Keeps.one {K:Obj→Prop} {B b:Nat} {w w':World} {o:Obj} (hg:w.grownBy w' (some b)) (hB:B≤b) (hw:B≤w.heap.size) (ho:w.heap[b]? =some o) (hK:K o):Keeps K B w w':=by
 refine ⟨⟨hg.os,hg.tape,hg.output,hg.size,fun k hk=>hg.block k (by omega) (by intro e;have:=Option.some.inj e;omega)⟩,fun k o' hk hn=>?_⟩
 ·by_cases he:k=b
  ·subst he;rw [ho] at hk
   cases hk;exact absurd hK hn
  ·rw [hg.block k (Array.getElem?_eq_some_iff.1 hk).1 (fun e=>he (Option.some.inj e))];exact hk
theorem Keeps.owns {K:Obj→Prop} {B base:Nat} {w w':World} {e:TypeId} {size n:Nat} {v:Value} {xs:List Value} (h:Keeps K B w w') (hw:w.ownsRow base e size v n xs) (h1:∀cs,¬K (.cells cs e (0,0))):w'.ownsRow base e size v n xs:=by
 refine ⟨hw.1,?_⟩;rcases hw.2 with h0|⟨g,cap,cur,hv,hb,hg,hr⟩
 ·exact .inl h0
 ·exact .inr ⟨g,cap,cur,hv,hb,h.keep g _ hg (h1 _),hr⟩
theorem grown_set (w:World) (b j:Nat) (x:Value):w.grownBy (w.setCell ⟨b,j,none⟩ x) (some b):=
 ⟨rfl,rfl,rfl,by simp [World.setCell],fun k _ hne=>Below.heap_setCell _ _ _ _ (fun e=>hne (by rw [e]))⟩
structure KeepsU (n b:Nat) (K:Obj→Prop) (B:Nat) (w w':World):Prop extends Keeps K B w w' where
 span:∀k,k<w.heap.size→(b<k∨k+n≤b)→w'.heap[k]? =w.heap[k]?
theorem KeepsU.refl (n b:Nat) (K:Obj→Prop) (B:Nat) (w:World):KeepsU n b K B w w:=⟨Keeps.refl _ _ _,fun _ _ _=>rfl⟩
theorem KeepsU.trans {n b:Nat} {K:Obj→Prop} {B:Nat} {u v w:World} (h:KeepsU n b K B u v) (k:KeepsU n b K B v w):KeepsU n b K B u w:=
 ⟨h.toKeeps.trans k.toKeeps,fun i hi hb=>(k.span i (Nat.lt_of_lt_of_le hi h.below.size) hb).trans (h.span i hi hb)⟩
theorem KeepsU.of {n b:Nat} {K:Obj→Prop} {B:Nat} {w w':World} (h:Below w.heap.size w w') (hB:B≤w.heap.size):KeepsU n b K B w w':=⟨Keeps.of h hB,fun k hk _=>h.block k hk⟩
theorem KeepsU.one {n u:Nat} {K:Obj→Prop} {B b:Nat} {w w':World} {o:Obj} (hg:w.grownBy w' (some b)) (hB:B≤b) (hw:B≤w.heap.size) (ho:w.heap[b]? =some o) (hK:K o) (hu:b≤u∧u<b+n):KeepsU n u K B w w':=
 ⟨Keeps.one hg hB hw ho hK,fun k hk hb=>hg.block k hk (fun e=>by have:=Option.some.inj e;omega)⟩
structure HeldB where
 most:Nat
 trees:List (Int×List FileB)
def HeldB.sums (h:HeldB):List Int:=h.trees.map (·.1)
def ixOf (n:Int):List Int→Option Nat
 | []=>none
 |x::l=>if x=n then some 0 else (ixOf n l).map (·+1)
def treeSum (l:List FileB):Int:=((sumL (packT l):Nat):Int)
def newH (most:Int):HeldB:=⟨min (max most 0).toNat 40,[]⟩
def getL:List (Int×List FileB)→Int→Option (List FileB)
 | [],_=>none
 |p::L,n=>if p.1=n then some p.2 else getL L n
def putH (h:HeldB) (l:List FileB):Er×Int×HeldB:=
 if (treeEr l).code≠0 then (treeEr l,0,h)
 else if h.most=0 then (⟨8,none⟩,0,h)
 else if (ixOf (treeSum l) h.sums).isSome=true then (⟨0,none⟩,treeSum l,h)
 else (⟨0,none⟩,treeSum l,{h with trees:=h.trees.drop (if h.most≤h.trees.length then 1 else 0)++[(treeSum l,l)]})
def dropH (h:HeldB) (n:Int):Nat×HeldB:=match ixOf n h.sums with
 |none=>(6,h)
 |some k=>(0,{h with trees:=h.trees.eraseIdx k})
theorem ixOf_some:∀{l:List Int} {n:Int} {k:Nat},ixOf n l=some k→∃hk:k<l.length,l[k]=n∧∀j (hj:j<k),l[j]'(by omega)≠n
 | [],_,_,h=>by cases h
 |x::l,n,k,h=>by
  unfold ixOf at h;split at h
  ·rename_i hx;injection h with h
   subst h;exact ⟨by simp,hx,fun j hj=>absurd hj (Nat.not_lt_zero _)⟩
  ·rename_i hx
   cases hr:ixOf n l with
   |none=>rw [hr] at h;cases h
   |some m=>
    rw [hr] at h;simp only [Option.map_some,Option.some.injEq] at h;obtain ⟨h1,h2,h3⟩:=ixOf_some hr;subst h;refine ⟨by simp;exact h1,by simpa using h2,fun j hj=>?_⟩
    cases j with
    |zero=>simpa using hx
    |succ j=>simpa using h3 j (by omega)
theorem ixOf_none:∀{l:List Int} {n:Int},ixOf n l=none→∀x∈l,x≠n
 | [],_,_=>fun x hx=>by cases hx
 |x::l,n,h=>by
  unfold ixOf at h;split at h
  ·cases h
  ·rename_i hx;have hr:ixOf n l=none:=by
    cases hr:ixOf n l with
    |none=>rfl
    |some m=>rw [hr] at h;cases h
   intro y hy;rcases List.mem_cons.1 hy with rfl|hy
   ·exact hx
   ·exact ixOf_none hr y hy
theorem ixOf_end {l:List Int} {n:Int} (h:∀x∈l,x≠n):ixOf n l=none:=by
 cases hx:ixOf n l with
 |none=>rfl
 |some k=>
  obtain ⟨h1,h2,_⟩:=ixOf_some hx;exact absurd h2 (h _ (List.getElem_mem h1))
theorem ixOf_none_iff {l:List Int} {n:Int}:ixOf n l=none↔n∉l:=
 ⟨fun h hm=>ixOf_none h n hm rfl,fun h=>ixOf_end fun _ hx e=>h (e▸hx)⟩
theorem ixOf_isSome {l:List Int} {n:Int}:(ixOf n l).isSome=true↔n∈l:=by
 cases h:ixOf n l with
 |none=>simp;exact ixOf_none_iff.1 h
 |some k=>obtain ⟨h1,h2,_⟩:=ixOf_some h;simp;exact h2▸List.getElem_mem h1
structure HeldOk (h:HeldB):Prop where
 few:h.most≤40
 len:h.trees.length≤h.most
 nodup:h.sums.Nodup
 right:∀p∈h.trees,(treeEr p.2).code=0∧p.1=treeSum p.2
theorem newH_ok (m:Int):HeldOk (newH m):=⟨Nat.min_le_right _ _,Nat.zero_le _,List.nodup_nil,fun p hp=>by cases hp⟩
theorem putH_ok {h:HeldB} (l:List FileB) (k:HeldOk h):HeldOk (putH h l).2.2:=by
 unfold putH;split
 ·exact k
 ·rename_i hc;split
  ·exact k
  ·split
   ·exact k
   ·rename_i h0 hx;have hn:treeSum l∉h.sums:=fun hm=>hx (ixOf_isSome.2 hm)
    have e:({h with trees:=h.trees.drop (if h.most≤h.trees.length then 1 else 0)++[(treeSum l,l)]}:HeldB).sums=h.sums.drop (if h.most≤h.trees.length then 1 else 0)++[treeSum l]:=by
     unfold HeldB.sums;simp
    refine ⟨k.few,?_,?_,fun p hp=>?_⟩
    ·have:=k.len;show (h.trees.drop _++[_]).length≤h.most;rw [List.length_append,List.length_drop];split<;>simp<;>omega
    ·rw [e];refine List.nodup_append.2 ⟨k.nodup.sublist (List.drop_sublist _ _),by simp,fun a ha b hb=>?_⟩;simp only [List.mem_singleton] at hb;subst hb;exact fun e=>hn (e▸List.mem_of_mem_drop ha)
    ·rcases List.mem_append.1 hp with hp|hp
     ·exact k.right p (List.mem_of_mem_drop hp)
     ·simp only [List.mem_singleton] at hp;subst hp;exact ⟨by simpa using hc,rfl⟩
theorem dropH_ok {h:HeldB} (n:Int) (k:HeldOk h):HeldOk (dropH h n).2:=by
 unfold dropH;split
 ·exact k
 ·refine ⟨k.few,?_,?_,fun p hp=>k.right p (List.mem_of_mem_eraseIdx hp)⟩
  ·exact Nat.le_trans (List.length_eraseIdx_le _ _) k.len
  ·refine k.nodup.sublist ?_;unfold HeldB.sums;exact (List.eraseIdx_sublist _ _).map _
theorem getL_none:∀{L:List (Int×List FileB)} {n:Int},n∉L.map (·.1)→getL L n=none
 | [],_,_=>rfl
 |p::L,n,h=>by
  rw [List.map_cons,List.mem_cons,not_or] at h;unfold getL;rw [if_neg (fun e=>h.1 e.symm)];exact getL_none h.2
theorem getL_some:∀{L:List (Int×List FileB)} {n:Int} {l:List FileB},getL L n=some l→(n,l)∈L
 | [],_,_,h=>by cases h
 |p::L,n,l,h=>by
  unfold getL at h;split at h
  ·rename_i e;injection h with h
   subst e;subst h;exact List.mem_cons_self ..
  ·exact List.mem_cons_of_mem _ (getL_some h)
theorem getL_app:∀{L:List (Int×List FileB)} {s:Int} {l:List FileB} (n:Int),s∉L.map (·.1)→getL (L++[(s,l)]) n=if n=s then some l else getL L n
 | [],s,l,n,_=>by
  show (if s=n then some l else none)=_;by_cases h:n=s
  ·rw [if_pos h.symm,if_pos h]
  ·rw [if_neg (fun e=>h e.symm),if_neg h];rfl
 |p::L,s,l,n,h=>by
  rw [List.map_cons,List.mem_cons,not_or] at h;show (if p.1=n then some p.2 else getL (L++[(s,l)]) n)=_;rw [getL_app n h.2];by_cases hp:p.1=n
  ·rw [if_pos hp,if_neg (fun e:n=s=>h.1 (hp.trans e).symm)];show _=(if p.1=n then some p.2 else _);rw [if_pos hp]
  ·rw [if_neg hp];split
   ·rfl
   ·show _=(if p.1=n then some p.2 else _);rw [if_neg hp]
theorem getL_erase:∀{L:List (Int×List FileB)} {k:Nat} (hk:k<L.length) (n:Int),(L.map (·.1)).Nodup→getL (L.eraseIdx k) n=if n=L[k].1 then none else getL L n
 |p::L,0,_,n,h=>by
  rw [List.map_cons,List.nodup_cons] at h;show getL L n=if n=p.1 then none else (if p.1=n then some p.2 else getL L n)
  by_cases hn:n=p.1
  ·rw [if_pos hn,hn];exact getL_none h.1
  ·rw [if_neg hn,if_neg (fun e=>hn e.symm)]
 |p::L,k+1,hk,n,h=>by
  rw [List.map_cons,List.nodup_cons] at h;have hk':k<L.length:=by simpa using hk
  show (if p.1=n then some p.2 else getL (L.eraseIdx k) n)=if n=L[k].1 then none else (if p.1=n then some p.2 else getL L n)
  rw [getL_erase hk' n h.2];by_cases hp:p.1=n
  ·rw [if_pos hp,if_pos hp,if_neg];intro e;exact h.1 (by rw [hp,e];exact List.mem_map.2 ⟨L[k],List.getElem_mem hk',rfl⟩)
  ·rw [if_neg hp,if_neg hp]
theorem getL_tail {L:List (Int×List FileB)} (hk:0<L.length) (n:Int) (h:(L.map (·.1)).Nodup):getL (L.drop 1) n=if n=L[0].1 then none else getL L n:=by
 cases L with
 |nil=>exact absurd hk (Nat.lt_irrefl _)
 |cons p L=>exact getL_erase (L:=p::L) (k:=0) (by simp) n h
def ixInt:Option Nat→Int
 |some k=>k
 |none=>-1
theorem idx_ix (n:Int):∀(zs:List Int) (i:Nat),Lib.idxFrom zs n i=match ixOf n zs with|some k=>((i+k:Nat):Int)|none=>-1
 | [],i=>rfl
 |z::zs,i=>by
  unfold Lib.idxFrom ixOf;by_cases h:z=n
  ·rw [if_pos h,if_pos h];rfl
  ·rw [if_neg h,if_neg h,idx_ix n zs (i+1)]
   cases ixOf n zs with
   |none=>rfl
   |some k=>show ((i+1+k:Nat):Int)=((i+(k+1):Nat):Int);omega
theorem idxOf_ix (n:Int) (zs:List Int):Lib.idxOf zs n=ixInt (ixOf n zs):=by
 unfold Lib.idxOf;rw [idx_ix]
 cases ixOf n zs with
 |none=>rfl
 |some k=>show ((0+k:Nat):Int)=(k:Int);omega
theorem sums_len (h:HeldB):h.sums.length=h.trees.length:=by unfold HeldB.sums;simp
def IOwn (w:World) (base:Nat) (v:Value) (zs:List Int):Prop:=w.ownsRow base 3 1 v zs.length (zs.map (Value.int .i64))
theorem ints_flat (zs:List Int):zs.flatMap encInt=zs.map (Value.int .i64):=by
 induction zs with
 |nil=>rfl
 |cons z zs ih=>rw [List.flatMap_cons,ih];rfl
theorem IOwn.row {w:World} {base:Nat} {v:Value} {zs:List Int} (h:IOwn w base v zs):Row encInt 1 w v zs:=Row.of_owns (enc:=encInt) (fun _=>rfl) (by rw [ints_flat];exact h)
theorem IOwn.ext {w w':World} {base:Nat} {v:Value} {zs:List Int} (h:IOwn w base v zs) (hb:Below w.heap.size w w'):IOwn w' base v zs:=owns_below h hb
theorem IOwn.low {w:World} {base B:Nat} {v:Value} {zs:List Int} (h:IOwn w base v zs) (hB:B≤base):IOwn w B v zs:=by
 refine ⟨h.1,?_⟩;rcases h.2 with h0|⟨g,cap,cur,hv,hb,hr⟩
 ·exact .inl h0
 ·exact .inr ⟨g,cap,cur,hv,Nat.le_trans hB hb,hr⟩
theorem getD_cells {w:World} {b off:Nat} {zs:List Int} (h:∀k,(hk:k<zs.length)→w.cell? ⟨b,off+k,none⟩=some (.int .i64 zs[k])):∀j,j<zs.length→w.cell? ⟨b,off+j,none⟩=some (.int .i64 (zs.getD j 0)):=fun j hj=>by
 rw [h j hj];simp [List.getD,List.getElem?_eq_getElem hj]
theorem cloneInts_any (v:Value) (zs:List Int) (w:World) (hz:zs.length≤100000) (hv:Row encInt 1 w v zs):
  Calls Tryz.prog 125 #[v] w fun e w'=>(∃ov,e=.returned ov∧Hid (IOwn w' w.heap.size ov zs))∧Below w.heap.size w w':=by
 rcases hv.one with ⟨rfl,rfl⟩|⟨b,off,cap,rfl,h1,h2,h3,h4⟩
 ·refine (Tryz.slices_Clone_int_nil 0 0 w).mono ?_;rintro e w' ⟨rfl,rfl⟩;exact ⟨⟨_,rfl,World.ownsRow_nil _ _ _ _⟩,Below.refl _ _⟩
 ·refine (Tryz.slices_Clone_int b off zs.length cap zs w (Nat.le_refl _) (by omega) (getD_cells h4)).mono ?_;rintro e w' ⟨ov,rfl,hown,_,hb⟩;rw [List.take_length] at hown;exact ⟨⟨_,rfl,hown⟩,hb⟩
theorem indexInt_any (v:Value) (zs:List Int) (n:Int) (w:World) (hz:zs.length≤100000) (hv:Row encInt 1 w v zs):
  Calls Tryz.prog 168 #[v,.int .i64 n] w fun e w'=>e=.returned (.int .i64 (ixInt (ixOf n zs)))∧w'=w:=by
 rcases hv.one with ⟨rfl,rfl⟩|⟨b,off,cap,rfl,h1,h2,h3,h4⟩
 ·refine (Tryz.slices_Index_int_empty none 0 n w).mono ?_;rintro e w' ⟨rfl,rfl⟩;exact ⟨rfl,rfl⟩
 ·refine (Tryz.slices_Index_int b off zs.length cap zs n w (Nat.le_refl _) (by omega) (getD_cells h4)).mono ?_;rintro e w' ⟨rfl,rfl⟩;rw [List.take_length,idxOf_ix];exact ⟨rfl,rfl⟩
theorem containsInt_any (v:Value) (zs:List Int) (n:Int) (w:World) (hz:zs.length≤100000) (hv:Row encInt 1 w v zs):
  Calls Tryz.prog 208 #[v,.int .i64 n] w fun e w'=>e=.returned (.bool (ixOf n zs).isSome)∧w'=w:=by
 have hc:(ixOf n zs).isSome=zs.contains n:=by
  rw [Bool.eq_iff_iff,ixOf_isSome,List.contains_iff_mem]
 rw [hc];rcases hv.one with ⟨rfl,rfl⟩|⟨b,off,cap,rfl,h1,h2,h3,h4⟩
 ·refine (Tryz.slices_Contains_int_empty none 0 n w).mono ?_;rintro e w' ⟨rfl,rfl⟩;exact ⟨rfl,rfl⟩
 ·refine (Tryz.slices_Contains_int b off zs.length cap zs n w (Nat.le_refl _) (by omega) (getD_cells h4)).mono ?_;rintro e w' ⟨rfl,rfl⟩;rw [List.take_length];exact ⟨rfl,rfl⟩
theorem row_short {w:World} {base:Nat} {e:TypeId} {g n cap:Nat} {xs:List Value} (h:w.ownsRow base e 1 (.slice (some ⟨g,0,none⟩) (n+1) cap) (n+1) xs):w.ownsRow base e 1 (.slice (some ⟨g,0,none⟩) n cap) n xs.dropLast:=by
 obtain ⟨h1,h2⟩:=h;rcases h2 with ⟨h3,h4⟩|⟨g',cap',cur,h3,h4,h5,h6,h7,h8,h9⟩
 ·omega
 ·obtain ⟨rfl,rfl⟩:g=g'∧cap=cap':=by simpa using h3
  refine ⟨by simp [h1],.inr ⟨g,cap,cur,rfl,h4,h5,by omega,h7,h8,?_⟩⟩;rw [←h9,List.dropLast_eq_take,List.take_take,List.length_take,Array.length_toList,h8];congr 1;omega
theorem deleteInt_any (v:Value) (zs:List Int) (k base:Nat) (hk:k<zs.length) (w:World) (hz:zs.length≤100000) (hv:IOwn w base v zs):
  Calls Tryz.prog 169 #[v,.int .i64 k,.int .i64 ((k:Int)+1)] w fun e w'=>(∃ov,e=.returned ov∧Hid (IOwn w' base ov (zs.eraseIdx k)))∧w.grownBy w' v.ownBlock:=by
 rcases hv.2 with ⟨_,h0⟩|⟨g,cap,cur,rfl,hb,hg,hn,hc,hs,ht⟩
 ·omega
 ·rw [Nat.mul_one] at ht;have hH:=holds_of_blockI hg ht;have C:=Tryz.slices_Delete_int g 0 cap k (k+1) zs w hH hn hc (by omega) (by omega);refine Calls.mono (show Calls Tryz.prog _ #[_,_,.int .i64 ((k:Int)+1)] w _ from C) ?_;rintro e w' ⟨rfl,q,rfl⟩;obtain ⟨n,hn2⟩:∃n,zs.length=n+1:=⟨zs.length-1,by omega⟩;have hlen:(zs.take k++zs.drop (k+1)++List.replicate (k+1-k) 0).length=zs.length:=by simp;omega
  have ho:=ownsRow_sortedI (n:=q) (os:=#[]) (ts:=zs.take k++zs.drop (k+1)++List.replicate (k+1-k) 0) hlen hb hg hn hc hs;rw [grow_empty,hn2] at ho;have hp:=row_short ho;have he:((zs.take k++zs.drop (k+1)++List.replicate (k+1-k) 0).map (Value.int .i64)).dropLast=(zs.eraseIdx k).map (Value.int .i64):=by
   rw [show k+1-k=1 by omega,←List.map_dropLast,List.replicate_one,List.dropLast_concat,List.eraseIdx_eq_take_drop_succ]
  have hl2:(zs.eraseIdx k).length=n:=by rw [List.length_eraseIdx,if_pos hk];omega
  refine ⟨⟨_,rfl,?_⟩,?_⟩
  ·show World.ownsRow _ _ _ _ _ _ _;rw [hl2,←he,show zs.length- (k+1-k)=n by omega];exact hp
  ·have:=grownBy_sortedI (w:=w) (g:=g) (n:=q) (os:=#[]) (zs.take k++zs.drop (k+1)++List.replicate (k+1-k) 0).toArray;rw [grow_empty] at this;exact this
theorem Tryz.intKeyed:Keyed Tryz.prog 3:=int_keyed Tryz.underlying3
def I64 (i:Int):Prop:= -9223372036854775808≤i∧i≤9223372036854775807
theorem wfI {i:Int} (h:I64 i):(Lit.int .i64 i).wf=true:=WalkArith.wf_i64 h
theorem keyInt (i:Int) (h:I64 i):keyOf Tryz.prog 3 (.int .i64 i)=some (.int .i64 i):=keyOf_int_mk Tryz.underlying3 (wfI h)
def RAny (v:Value):Option (DataW Value×List MemPlace):=some (.held v,[])
def MapI (w:World) (b m:Nat) (f:Int→Option Value):Prop:=
 ∃D,w.ownsMap Tryz.prog 3 RAny b m D∧Maps.size D=m∧(∀i,Maps.has D (.int .i64 i)=(f i).isSome)∧∀i z,D.atKey (.int .i64 i) z=((f i).map DataW.held).getD z
theorem ownsMap_tightI {P:Program} {k:TypeId} {R:Value→Option (DataW Value×List MemPlace)} {w:World} {b n:Nat} {D:DataW Value} (h:w.ownsMap P k R b n D):w.ownsMap P k R b (Maps.size D) D:=by
 obtain ⟨es,clock,hb,F,hs,rfl⟩:=h;exact ⟨es,clock,hb,F,by simp [Maps.size,length_sorted],rfl⟩
theorem intKey_ne {i j:Int} (h:i≠j):(Lit.int .i64 i)≠.int .i64 j:=fun e=>h (by injection e)
theorem MapI.made (w:World):MapI (w.alloc (.map #[] 0)) w.heap.size 0 (fun _=>none):=
 ⟨.map [],World.ownsMap_made _ _ _ _,rfl,fun _=>rfl,fun _ _=>rfl⟩
theorem MapI.keep {w w':World} {b m:Nat} {f:Int→Option Value} (h:MapI w b m f) (hb:w'.heap[b]? =w.heap[b]?):MapI w' b m f:=by
 obtain ⟨D,⟨es,clock,h1,F,hs,hD⟩,h2⟩:=h;exact ⟨D,⟨es,clock,hb.trans h1,F,hs,hD⟩,h2⟩
theorem MapI.lt {w:World} {b m:Nat} {f:Int→Option Value} (h:MapI w b m f):b<w.heap.size:=by
 obtain ⟨D,h1,_⟩:=h;exact h1.lt
theorem MapI.isMap {w:World} {b m:Nat} {f:Int→Option Value} (h:MapI w b m f):∃es c,w.heap[b]? =some (.map es c):=by
 obtain ⟨D,⟨es,clock,h1,_⟩,_⟩:=h;exact ⟨es,clock,h1⟩
theorem MapI.put {w w':World} {b m n:Nat} {f:Int→Option Value} {D:DataW Value} (h1:w.ownsMap Tryz.prog 3 RAny b m D) (h2:Maps.size D=m) (h3:∀i,Maps.has D (.int .i64 i)=(f i).isSome) (h4:∀i z,D.atKey (.int .i64 i) z=((f i).map DataW.held).getD z)
  (i:Int) (v:Value) (hw:w'.ownsMap Tryz.prog 3 RAny b n (D.put (.int .i64 i) (.held v))):MapI w' b (if (f i).isSome=true then m else m+1) (fun j=>if j=i then some v else f j):=by
 have hsz:Maps.size (D.put (.int .i64 i) (.held v))=if (f i).isSome=true then m else m+1:=by
  rw [size_put (h1.tidy Tryz.intKeyed),h3,h2]
 refine ⟨_,by rw [←hsz];exact ownsMap_tightI hw,hsz,fun u=>?_,fun u z=>?_⟩
 ·by_cases hu:u=i
  ·subst hu;rw [has_put_same (k:= .int .i64 u) h1.isMap trivial];simp
  ·rw [has_put_other (intKey_ne hu),h3];simp [hu]
 ·by_cases hu:u=i
  ·subst hu;rw [atKey_put_same (k:= .int .i64 u) h1.isMap trivial];simp
  ·rw [atKey_put_other (intKey_ne hu),h4];simp [hu]
theorem MapI.del {w w':World} {b m n:Nat} {f:Int→Option Value} {D:DataW Value} (h1:w.ownsMap Tryz.prog 3 RAny b m D) (h2:Maps.size D=m) (h3:∀i,Maps.has D (.int .i64 i)=(f i).isSome) (h4:∀i z,D.atKey (.int .i64 i) z=((f i).map DataW.held).getD z)
  (i:Int) (hw:w'.ownsMap Tryz.prog 3 RAny b n (D.del (.int .i64 i))):MapI w' b (m-if (f i).isSome=true then 1 else 0) (fun j=>if j=i then none else f j):=by
 have hsz:=size_del (h1.tidy Tryz.intKeyed) (k:= .int .i64 i);rw [h3,h2] at hsz;have hm:m- (if (f i).isSome=true then 1 else 0)=Maps.size (D.del (.int .i64 i)):=by omega
 rw [hm];refine ⟨_,ownsMap_tightI hw,rfl,fun u=>?_,fun u z=>?_⟩
 ·by_cases hu:u=i
  ·subst hu;rw [has_del_same];simp
  ·rw [has_del_other (intKey_ne hu),h3];simp [hu]
 ·by_cases hu:u=i
  ·subst hu;rw [atKey_del_same];simp
  ·rw [atKey_del_other (intKey_ne hu),h4];simp [hu]
theorem Tryz.zeroFiles (w:World):(zeroValue 124).run Tryz.prog w=.ok (.slice none 0 0) w:=by kernel_rfl
theorem look_any {w:World} {b m:Nat} {f:Int→Option Value} (h:MapI w b m f) (i:Int) (hi:I64 i):
  (Instr.lookup 107 (.map (some b)) (.int .i64 i) true).run Tryz.prog w=.ok (.tuple #[(f i).getD (.slice none 0 0),.bool (f i).isSome]) w:=by
 obtain ⟨D,h1,h2,h3,h4⟩:=h;obtain ⟨v,ps,hr,hv⟩:=h1.look_ok Tryz.intKeyed Tryz.underlying107 (Tryz.zeroFiles w) (zd:= .held (.slice none 0 0)) (zp:=[]) rfl (keyInt i hi);rw [hr,h3];unfold RAny at hv;simp only [Option.some.injEq,Prod.mk.injEq] at hv;rw [h4] at hv
 cases hf:f i with
 |none=>
      rw [hf] at hv;have e:v=.slice none 0 0:=by have:=hv.1;simp at this;exact this
      rw [e];rfl
 |some x=>
       rw [hf] at hv;have e:v=x:=by have:=hv.1;simp at this;exact this
       rw [e];rfl
def HeldRow (o:Obj):Prop:=(∃es c,o=.map es c)∨(∃cs fz,o=.cells cs 110 fz)
def HVal (w:World) (B:Nat) (o:Option (List FileB)) (v:Option Value):Prop:=(o=none∧v=none)∨(∃l x,o=some l∧v=some x∧FOwn w B x l)
structure HeldAt (w:World) (B b:Nat) (h:HeldB) (ov:Value) (mb:Nat) (f:Int→Option Value):Prop where
 hb:B≤b
 hm:B≤mb
 hlt:mb+1=b
 blk:w.heap[b]? =some (.cells #[.int .i64 h.most,ov,.map (some mb)] 110 (0,0))
 order:IOwn w B ov h.sums
 map:MapI w mb h.trees.length f
 vals:∀n,HVal w B (getL h.trees n) (f n)
def HeldIs (w:World) (B b:Nat) (h:HeldB):Prop:=HeldOk h∧∃ov mb f,HeldAt w B b h ov mb f
theorem HVal.keeps {K:Obj→Prop} {w w':World} {B B2:Nat} {o:Option (List FileB)} {v:Option Value} (h:HVal w B o v) (hk:Keeps K B2 w w') (h1:∀cs,¬K (.cells cs 170 (0,0))):HVal w' B o v:=by
 rcases h with h|⟨l,x,h2,h3,h4⟩
 ·exact .inl h
 ·exact .inr ⟨l,x,h2,h3,hk.owns h4 h1⟩
theorem HeldIs.keeps {K:Obj→Prop} {w w':World} {B B2 b:Nat} {h:HeldB} (hi:HeldIs w B b h) (hk:Keeps K B2 w w') (h1:∀es c,¬K (.map es c)) (h2:∀cs fz,¬K (.cells cs 110 fz)) (h3:∀cs,¬K (.cells cs 3 (0,0))) (h4:∀cs,¬K (.cells cs 170 (0,0))):HeldIs w' B b h:=by
 obtain ⟨h0,ov,mb,f,hA⟩:=hi;obtain ⟨es,c,he⟩:=hA.map.isMap;exact ⟨h0,ov,mb,f,hA.hb,hA.hm,hA.hlt,hk.keep b _ hA.blk (h2 _ _),hk.owns hA.order h3,hA.map.keep ((hk.keep mb _ he (h1 es c)).trans he.symm),fun n=>(hA.vals n).keeps hk h4⟩
theorem HeldIs.below {w w':World} {B b:Nat} {h:HeldB} (hi:HeldIs w B b h) (hb:Below w.heap.size w w'):HeldIs w' B b h:=
 hi.keeps (K:=fun _=>False) (Keeps.of hb (Nat.le_refl _)) (fun _ _ h=>h) (fun _ _ h=>h) (fun _ h=>h) (fun _ h=>h)
theorem heldNew_any (most:Int) (w:World):Calls Tryz.prog 28 #[.int .i64 most] w fun e w'=>∃b,e=.returned (.pointer (some ⟨b,0,none⟩))∧HeldIs w' w.heap.size b (newH most)∧Below w.heap.size w w':=by
 have hmm:=@run_makeMap Tryz.prog;go_enter Tryz.func28,Tryz.ntmps28;go_wp2_with fail;go_ret;have e1:(w.alloc (.map #[] 0)).heap.size=w.heap.size+1:=by simp only [World.size_alloc]
 have b1:Below w.heap.size w (w.alloc (.map #[] 0)):=(Below.refl _ _).alloc (Nat.le_refl _) _;have em:min (max most 0) 40=((newH most).most:Int):=by unfold newH;simp only;omega
 refine ⟨_,rfl,⟨newH_ok most,.slice none 0 0,w.heap.size,fun _=>none,?_⟩,b1.alloc (Nat.le_of_lt (by rw [e1];omega)) _⟩;refine {hb:=by omega,hm:=Nat.le_refl _,hlt:=by omega,blk:=?_,order:=World.ownsRow_nil _ _ _ _,map:=?_,vals:=fun n=>.inl ⟨rfl,rfl⟩}
 ·rw [←em,←e1];exact heap_alloc_new _ _
 ·exact (MapI.made w).keep (by rw [Below.heap_alloc];rw [e1];omega)
theorem heldSums_any (B b:Nat) (h:HeldB) (w:World) (hi:HeldIs w B b h):
  Calls Tryz.prog 89 #[.pointer (some ⟨b,0,none⟩)] w fun e w'=>(∃ov,e=.returned ov∧Hid (IOwn w' w.heap.size ov h.sums))∧Below w.heap.size w w':=by
 obtain ⟨h0,ov,mb,f,hA⟩:=hi;have hl:h.sums.length≤100000:=by have:=h0.len;have:=h0.few;rw [sums_len];omega
 have C:=Lib.hid (cloneInts_any ov h.sums w hl hA.order.row);have c1:w.cell? ⟨b,1,none⟩=some ov:=by rw [Lib.cell_of_heap hA.blk];rfl
 clear hA hl h0;go_enter Tryz.func89,Tryz.ntmps89;go_wp2_with fail;refine C.out.mono ?_;clear C;rintro e w1 ⟨⟨x,rfl,HX⟩,hb⟩;go_wp2_with fail;go_ret;exact ⟨⟨_,rfl,HX⟩,hb⟩
def HGetPost (E:Nat→Addr) (o:Option (List FileB)) (w:World) (e:Ending) (w':World):Prop:=
 ((∃l ov,o=some l∧e=.returned (.tuple #[ov,.nilIface])∧Hid (FOwn w' w.heap.size ov l))∨(o=none∧e=.returned (.tuple #[.slice none 0 0,sentV E 5])))∧Below w.heap.size w w'
theorem right_len {l:List FileB} (h:(treeEr l).code=0):l.length≤10000∧∀f∈l,SmallF f:=by
 obtain ⟨_,h1,_,h3⟩:=treeEr_zero h;refine ⟨by omega,fun f hf=>?_⟩;have h4:=h3 f hf;have h5:=path_len h4.1;rw [bl_length] at h5;exact ⟨by omega,by omega⟩
theorem held_right {h:HeldB} (k:HeldOk h) {n:Int} {l:List FileB} (hl:getL h.trees n=some l):(treeEr l).code=0∧n=treeSum l:=k.right _ (getL_some hl)
theorem heldGet_any {E:Nat→Addr} (B b:Nat) (h:HeldB) (n:Int) (hn:I64 n) (w:World) (hi:HeldIs w B b h) (hE:Env E w):
  Calls Tryz.prog 126 #[.pointer (some ⟨b,0,none⟩),.int .i64 n] w (HGetPost E (getL h.trees n) w):=by
 obtain ⟨h0,ov,mb,f,hA⟩:=hi;have c2:w.cell? ⟨b,2,none⟩=some (.map (some mb)):=by rw [Lib.cell_of_heap hA.blk];rfl
 have hl:=look_any hA.map n hn;have e1:w.cell? ⟨5,0,none⟩=some (sentV E 5):=hE.err 5 (by decide);rcases hA.vals n with ⟨h1,h2⟩|⟨l,x,h1,h2,h3⟩
 ·rw [h2] at hl;simp only [Option.getD_none,Option.isSome_none] at hl;have H1:=Lib.hid h1;clear hA h1 h2;go_enter Tryz.func126,Tryz.ntmps126;go_wp2_with fail;go_quiet (fail);go_wp2_with fail;go_ret2;exact ⟨.inr ⟨H1.out,rfl⟩,below_drewN _ _ _⟩
 ·rw [h2] at hl;simp only [Option.getD_some,Option.isSome_some] at hl;have C:=Lib.hid (cloneFiles_any x l w (right_len (held_right h0 h1).1).1 (FOwn.arg h3));have H1:=Lib.hid h1;obtain ⟨xo,xc,rfl⟩:=FOwn.shape h3;clear hA h1 h2 h3 e1;go_enter Tryz.func126,Tryz.ntmps126;go_wp2_with fail;refine C.out.mono ?_;clear C;rintro e w1 ⟨⟨y,rfl,HY⟩,hb⟩;go_wp2_with fail;go_ret2;exact ⟨.inl ⟨l,y,H1.out,rfl,HY⟩,hb⟩
theorem HeldAt.sp {w:World} {B b mb:Nat} {h:HeldB} {ov:Value} {f:Int→Option Value} (hA:HeldAt w B b h ov mb f):mb≤b∧b<mb+2:=by have:=hA.hlt;omega
theorem heldTurned_keeps {B b u:Nat} {w w':World} (h:w.mapTurned w' b) (hB:B≤b) (hw:B≤w.heap.size) (hu:b≤u∧u<b+2):KeepsU 2 u HeldRow B w w':=by
 obtain ⟨es,c,es',c',h1,h2⟩:=id h;exact KeepsU.one h.grown hB hw h1 (.inl ⟨_,_,rfl⟩) hu
theorem held_turned {w w':World} {b c:Nat} {cs:Array Value} {T:TypeId} {fz:Nat×Nat} (h:w.heap[b]? =some (.cells cs T fz)) (ht:w.mapTurned w' c):w'.heap[b]? =some (.cells cs T fz):=by
 rw [ht.grown.block b (Array.getElem?_eq_some_iff.1 h).1 (fun e=>by
  obtain ⟨es,cl,es',cl',h1,_⟩:=ht;rw [←Option.some.inj e,h] at h1
  cases h1)]
 exact h
theorem held_set {w:World} {b:Nat} {a o m:Value} (h:w.heap[b]? =some (.cells #[a,o,m] 110 (0,0))) (x:Value):(w.setCell ⟨b,1,none⟩ x).heap[b]? =some (.cells #[a,x,m] 110 (0,0)):=by
 simp [World.setCell,Array.getElem?_modify,h]
theorem heldRow_ints (cs:Array Value):¬HeldRow (.cells cs 3 (0,0)):=by
 rintro (⟨es,c,h⟩|⟨cs',fz,h⟩)
 ·cases h
 ·injection h with _ h _;exact absurd h (by decide)
theorem heldRow_files (cs:Array Value):¬HeldRow (.cells cs 170 (0,0)):=by
 rintro (⟨es,c,h⟩|⟨cs',fz,h⟩)
 ·cases h
 ·injection h with _ h _;exact absurd h (by decide)
theorem held_store {w:World} {B b:Nat} {a o m:Value} (h:w.heap[b]? =some (.cells #[a,o,m] 110 (0,0))) (hB:B≤b) (hw:B≤w.heap.size) (x:Value):KeepsU 2 b HeldRow B w (w.setCell ⟨b,1,none⟩ x):=
 KeepsU.one (grown_set w b 1 x) hB hw h (.inr ⟨_,_,rfl⟩) ⟨Nat.le_refl _,by omega⟩
theorem held_ready {w:World} {b:Nat} {a o m:Value} (h:w.heap[b]? =some (.cells #[a,o,m] 110 (0,0))):w.cell? ⟨b,0,none⟩=some a∧w.cell? ⟨b,1,none⟩=some o∧w.cell? ⟨b,2,none⟩=some m∧w.frozen? ⟨b,1,none⟩=false:=
 ⟨by rw [Lib.cell_of_heap h];rfl,by rw [Lib.cell_of_heap h];rfl,by rw [Lib.cell_of_heap h];rfl,Lib.frozen_of_heap h 1⟩
theorem mapI_cells {w:World} {b mb m:Nat} {f:Int→Option Value} {cs:Array Value} {T:TypeId} {fz:Nat×Nat} (h:w.heap[b]? =some (.cells cs T fz)) (hm:MapI w mb m f):mb≠b:=by
 rintro rfl;obtain ⟨es,c,he⟩:=hm.isMap;rw [he] at h;cases h
theorem sums_at (h:HeldB) (k:Nat) (hk:k<h.trees.length) (hk2:k<h.sums.length):h.sums[k]=h.trees[k].1:=List.getElem_map _
theorem map_erase {α β:Type} (f:α→β):∀(L:List α) (k:Nat),(L.eraseIdx k).map f=(L.map f).eraseIdx k
 | [],_=>rfl
 |x::L,0=>rfl
 |x::L,k+1=>by
  show f x::(L.eraseIdx k).map f=f x::(L.map f).eraseIdx k;rw [map_erase f L k]
theorem IOwn.shape {w:World} {base:Nat} {v:Value} {zs:List Int} (h:IOwn w base v zs):∃ao cap,v=.slice ao zs.length cap:=by
 rcases h.2 with ⟨rfl,h0⟩|⟨g,cap,cur,rfl,_⟩
 ·exact ⟨none,0,by rw [h0]⟩
 ·exact ⟨_,cap,rfl⟩
def HDropPost (E:Nat→Addr) (B b:Nat) (r:Nat×HeldB) (w:World) (e:Ending) (w':World):Prop:=e=.returned (errV E r.1)∧HeldIs w' B b r.2∧KeepsU 2 b HeldRow B w w'
theorem heldAt_drop {w w2 w3 w4:World} {B b mb k j:Nat} {h:HeldB} {ov x y:Value} {f:Int→Option Value} {n:Int} {D:DataW Value} (h0:HeldOk h) (hA:HeldAt w B b h ov mb f) (hk:k<h.trees.length) (hn:h.trees[k].1=n) (hix:ixOf n h.sums=some k) (hBw:B≤w.heap.size)
  (d1:w.ownsMap Tryz.prog 3 RAny mb h.trees.length D) (d2:Maps.size D=h.trees.length) (d3:∀i,Maps.has D (.int .i64 i)=(f i).isSome) (d4:∀i z,D.atKey (.int .i64 i) z=((f i).map DataW.held).getD z)
  (o2:w2.ownsMap Tryz.prog 3 RAny mb j (D.del (.int .i64 n))) (ht:w.mapTurned w2 mb) (hb3:Below w2.heap.size w2 w3) (hx:IOwn w3 w2.heap.size x h.sums) (hg:w3.grownBy w4 x.ownBlock) (hy:IOwn w4 w2.heap.size y (h.sums.eraseIdx k)):
  HeldIs (w4.setCell ⟨b,1,none⟩ y) B b {h with trees:=h.trees.eraseIdx k}∧KeepsU 2 b HeldRow B w (w4.setCell ⟨b,1,none⟩ y):=by
 have K1:=heldTurned_keeps ht hA.hm hBw hA.sp;have hB2:B≤w2.heap.size:=Nat.le_trans hBw K1.below.size;have b4:Below w2.heap.size w2 w4:=hb3.grown hg hb3.size (fun q hq=>(World.ownsRow.lt hx q hq).1);have blk4:w4.heap[b]? =some (.cells #[.int .i64 h.most,ov,.map (some mb)] 110 (0,0)):=by
  have:=held_turned hA.blk ht;rw [b4.block b (Array.getElem?_eq_some_iff.1 this).1];exact this
 have K2:KeepsU 2 b HeldRow B w2 w4:=KeepsU.of b4 hB2;have K3:=held_store blk4 hA.hb (Nat.le_trans hB2 b4.size) y;have K:=K1.trans (K2.trans K3);have m2:=MapI.del d1 d2 d3 d4 n o2;have hne:=mapI_cells (held_turned hA.blk ht) m2;have hsome:(f n).isSome=true:=by
  rcases hA.vals n with ⟨hv,_⟩|⟨l,v,_,hv,_⟩
  ·exfalso;have hmem:n∈h.trees.map (·.1):=List.mem_map.2 ⟨_,List.getElem_mem hk,hn⟩
   cases hg2:getL h.trees n with
   |some l=>rw [hg2] at hv;cases hv
   |none=>
    have:∀(L:List (Int×List FileB)),n∈L.map (·.1)→getL L n≠none:=by
     intro L;induction L with
     |nil=>intro h;cases h
     |cons p L ih=>
      intro hm;unfold getL;by_cases hp:p.1=n
      ·rw [if_pos hp];simp
      ·rw [if_neg hp];rw [List.map_cons,List.mem_cons] at hm;rcases hm with hm|hm
       ·exact absurd hm.symm hp
       ·exact ih hm
    exact this _ hmem hg2
  ·rw [hv];rfl
 rw [if_pos hsome] at m2;have hd:=dropH_ok n h0;have hdr:dropH h n=(0,{h with trees:=h.trees.eraseIdx k}):=by unfold dropH;rw [hix]
 rw [hdr] at hd;have hs2:({h with trees:=h.trees.eraseIdx k}:HeldB).sums=h.sums.eraseIdx k:=map_erase _ _ _;refine ⟨⟨hd,y,mb,fun i=>if i=n then none else f i,?_⟩,K⟩;refine {hb:=hA.hb,hm:=hA.hm,hlt:=hA.hlt,blk:=held_set blk4 y,order:=?_,map:=?_,vals:=fun i=>?_}
 ·rw [hs2];exact K3.owns (IOwn.low hy hB2) heldRow_ints
 ·have e:(h.trees.eraseIdx k).length=h.trees.length-1:=by rw [List.length_eraseIdx,if_pos hk]
  show MapI _ mb (h.trees.eraseIdx k).length _;rw [e];refine (m2.keep (b4.block mb m2.lt)).keep ?_;rw [Below.heap_setCell _ _ _ _ hne]
 ·show HVal _ B (getL (h.trees.eraseIdx k) i) _;rw [getL_erase hk i h0.nodup,hn];by_cases hi:i=n
  ·rw [if_pos hi];simp only [if_pos hi];exact .inl ⟨rfl,rfl⟩
  ·rw [if_neg hi];simp only [if_neg hi];exact (hA.vals i).keeps K.toKeeps heldRow_files
theorem heldDrop_any {E:Nat→Addr} (B b:Nat) (h:HeldB) (n:Int) (hn:I64 n) (w:World) (hi:HeldIs w B b h) (hBw:B≤w.heap.size) (hE:Env E w):
  Calls Tryz.prog 127 #[.pointer (some ⟨b,0,none⟩),.int .i64 n] w (HDropPost E B b (dropH h n) w):=by
 obtain ⟨h0,ov,mb,f,hA⟩:=id hi;have hl:h.sums.length≤100000:=by have:=h0.len;have:=h0.few;rw [sums_len];omega
 have C:=Lib.hid (indexInt_any ov h.sums n w hl hA.order.row);obtain ⟨c0,c1,c2,f1⟩:=held_ready hA.blk;have e1:w.cell? ⟨5,0,none⟩=some (sentV E 5):=hE.err 5 (by decide);have H0:=Lib.hid h0;have HI:=Lib.hid hi;have HA:=Lib.hid hA;clear h0 hi hA hE;go_enter Tryz.func127,Tryz.ntmps127;go_wp2_with fail;refine C.out.mono ?_;clear C;rintro e w1 ⟨rfl,rfl⟩
 cases hx:ixOf n h.sums with
 |none=>
  have hr:dropH h n=(6,h):=by unfold dropH;rw [hx]
  have HR:=Lib.hid hr;rw [show ixInt none= -1 from rfl];clear hr hx;go_wp2_with fail;go_ret;rw [HR.out];exact ⟨rfl,HI.out,KeepsU.refl _ _ _ _ _⟩
 |some k=>
  have hr:dropH h n=(0,{h with trees:=h.trees.eraseIdx k}):=by unfold dropH;rw [hx]
  have HR:=Lib.hid hr;obtain ⟨hks,hkn,hkx⟩:=ixOf_some hx;have hk:k<h.trees.length:=by rw [←sums_len];exact hks
  have hkn2:Hid (h.trees[k].1=n):=(sums_at h k hk hks).symm.trans hkn;have HIX:=Lib.hid hx;have hkb:k<100000:=by omega
  rw [show ixInt (some k)=(k:Int) from rfl];obtain ⟨D,d1,d2,d3,d4⟩:=HA.out.map;have Hd:=Lib.hid d1;have Hde:=Lib.hid (And.intro d2 (And.intro d3 d4));have hki:=keyInt n hn;clear hr hkx hx hkn hks d1 d2 d3 d4 e1;go_wp2_with (first
   |(at_delete;refine wpList_delete_own _ rfl _ _ 107 3 rfl 124 Tryz.intKeyed Tryz.underlying107 RAny mb h.trees.length D rfl Hd.out _ _ rfl hki ?_;intro w2 hown2 hturn2;have Ho2:=Lib.hid hown2;have g1:=(held_ready (held_turned HA.out.blk hturn2)).2.1;clear hown2))
  have K1:=heldTurned_keeps hturn2 HA.out.hm hBw HA.out.sp;have C:=Lib.hid (cloneInts_any ov h.sums w2 hl (IOwn.row (K1.owns HA.out.order heldRow_ints)));refine C.out.mono ?_;clear C K1;rintro e w3 ⟨⟨x,rfl,HX⟩,hb3⟩;have C:=Lib.hid (deleteInt_any x h.sums k w2.heap.size (by rw [sums_len];exact hk) w3 hl HX.out);go_wp2_with fail;refine C.out.mono ?_;clear C;rintro e w4 ⟨⟨y,rfl,HY⟩,hg4⟩;have blk4:w4.heap[b]? =some (.cells #[.int .i64 h.most,ov,.map (some mb)] 110 (0,0)):=by
   have:=held_turned HA.out.blk hturn2;rw [(hb3.grown hg4 hb3.size (fun q hq=>(World.ownsRow.lt HX.out q hq).1)).block b (Array.getElem?_eq_some_iff.1 this).1];exact this
  obtain ⟨_,g4,_,f4⟩:=held_ready blk4;obtain ⟨yo,yc,rfl⟩:=IOwn.shape HY.out;have HF:=Lib.hid (heldAt_drop H0.out HA.out hk hkn2.out HIX.out hBw Hd.out Hde.out.1 Hde.out.2.1 Hde.out.2.2 Ho2.out hturn2 hb3 HX.out hg4 HY.out);clear blk4;go_wp2_with fail;go_ret;rw [HR.out];exact ⟨rfl,HF.out.1,HF.out.2⟩
theorem HeldIs.apart {w w':World} {B B2 b c:Nat} {h:HeldB} (hi:HeldIs w B b h) (hk:KeepsU 2 c HeldRow B2 w w') (hd:c+2≤b∨b+2≤c):HeldIs w' B b h:=by
 obtain ⟨h0,ov,mb,f,hA⟩:=hi;have hl:=hA.hlt;have h1:=(Array.getElem?_eq_some_iff.1 hA.blk).1;exact ⟨h0,ov,mb,f,{hb:=hA.hb,hm:=hA.hm,hlt:=hA.hlt,blk:=(hk.span b h1 (by omega)).trans hA.blk,order:=hk.toKeeps.owns hA.order heldRow_ints,map:=hA.map.keep (hk.span mb hA.map.lt (by omega)),vals:=fun n=>(hA.vals n).keeps hk.toKeeps heldRow_files}⟩
theorem step_delete_own {P:Program} {ops:Array Oper} {o:Oper} {a:Act} {w:World} {K:Act→World→Prop} {Q:Exit→Act→World→Prop} {E:Prop} {H:Type}
  (hg:o.guard=none) (m x:Operand) (t k:TypeId) (hop:o.op=Op.call {callee:=Callee.builtin Builtin.delete,args:=#[m,x],argTypes:=#[t,k]})
  (e:TypeId) (Kd:Keyed P k) (ht:P.underlying t=some (.map k e)) (R:Value→Option (DataW H×List MemPlace)) (b n:Nat) (D:DataW H)
  (hm:a.eval m=.map (some b)) (hown:w.ownsMap P k R b n D) (key:Value) (kl:Lit) (hx:a.eval x=key) (hkey:keyOf P k key=some kl)
  (hK:∀w',w'.ownsMap P k R b n (D.del kl)→w.mapTurned w' b→K (a.put o.dst (.tuple #[])) w'):
  if Region.wanted o (yielded ops a.tmps)=true then Oper.wp P o a w K Q else E:=by
 have hw:Region.wanted o (yielded ops a.tmps)=true:=by simp [Region.wanted,hg]
 rw [if_pos hw];obtain ⟨w',hrun,r1,r2⟩:=hown.drop Kd ht hkey o.type;unfold Oper.wp;simp [execOp,hop,resolve,invoke,builtin,hm,hx,hrun,Result.andThen];exact hK w' r1 r2
end Go.Proofs.YtaabgmbjmfjdjaaGreatDoor
