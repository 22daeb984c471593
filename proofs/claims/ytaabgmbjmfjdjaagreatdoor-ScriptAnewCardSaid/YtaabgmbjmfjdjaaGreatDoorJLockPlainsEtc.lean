import Derived.Test.YtaabgmbjmfjdjaaGreatDoorJParsedEtc
import Derived.Test.YtaabgmbjmfjdjaaGreatDoorJTreePlains
import Derived.Test.YtaabgmbjmfjdjaaGreatDoorJRefTreeEtc
namespace Go.Proofs.YtaabgmbjmfjdjaaGreatDoor
open Go
theorem wLt.tri {a b:WantB} (h:¬wLt a b) (k:¬wLt b a):a.name=b.name:=bl_inj (List.le_antisymm (List.not_lt.1 k) (List.not_lt.1 h))
theorem wLt.congr {a b c d:WantB} (h:a.name=c.name) (k:b.name=d.name):wLt a b↔wLt c d:=by unfold wLt;rw [h,k]
theorem findW_some:∀{l:List WantB} {n:ByteArray} {k:Nat},findW n l=some k→∃hk:k<l.length,l[k].name=n
 | [],_,_,h=>by cases h
 |w::l,n,k,h=>by
  unfold findW at h;split at h
  ·rename_i e;injection h with h;subst h;exact ⟨by simp,e⟩
  ·cases hr:findW n l with
   |none=>rw [hr] at h;cases h
   |some j=>
    rw [hr] at h;simp only [Option.map_some,Option.some.injEq] at h;subst h;obtain ⟨h1,h2⟩:=findW_some hr;exact ⟨by simp;exact h1,by simpa using h2⟩
theorem findW_none:∀{l:List WantB} {n:ByteArray},findW n l=none↔∀x∈l,x.name≠n
 | [],n=>by simp [findW]
 |w::l,n=>by
  unfold findW;by_cases h:w.name=n
  ·rw [if_pos h];exact ⟨fun e=>(by cases e),fun e=>absurd h (e w (List.mem_cons_self ..))⟩
  ·rw [if_neg h,Option.map_eq_none_iff,findW_none];constructor
   ·intro e x hx;rcases List.mem_cons.1 hx with rfl|hx
    ·exact h
    ·exact e x hx
   ·exact fun e x hx=>e x (List.mem_cons_of_mem _ hx)
theorem findW_isSome {l:List WantB} {n:ByteArray}:(findW n l).isSome=true↔∃x∈l,x.name=n:=by
 cases h:findW n l with
 |none=>
  have:=findW_none.1 h;simp only [Option.isSome_none];exact ⟨fun e=>(by cases e),fun ⟨x,hx,e⟩=>absurd e (this x hx)⟩
 |some k=>
  obtain ⟨h1,h2⟩:=findW_some h;simp only [Option.isSome_some,true_iff];exact ⟨_,List.getElem_mem h1,h2⟩
theorem place_parts {l:List WantB} {w:WantB} (hl:l.Pairwise wLt):∃A D,l=A++D∧l.take (placeW l w)=A∧l.drop (placeW l w)=D∧(∀y∈A,wLt y w)∧∀y∈D,¬wLt y w:=by
 refine ⟨l.takeWhile (fun x=>decide (wLt x w)),l.dropWhile (fun x=>decide (wLt x w)),List.takeWhile_append_dropWhile.symm,?_,?_,fun y hy=>?_,fun y hy=>?_⟩
 ·unfold placeW
  conv=>lhs;arg 2;rw [←List.takeWhile_append_dropWhile (p:=fun x=>decide (wLt x w)) (l:=l)]
  rw [List.take_left]
 ·unfold placeW
  conv=>lhs;arg 2;rw [←List.takeWhile_append_dropWhile (p:=fun x=>decide (wLt x w)) (l:=l)]
  rw [List.drop_left]
 ·have:=takeWhile_all hy;simpa using this
 ·cases hd:l.dropWhile (fun x=>decide (wLt x w)) with
  |nil=>rw [hd] at hy;cases hy
  |cons z t=>
   have hz:¬wLt z w:=by
    have:=List.head?_dropWhile_not (p:=fun x=>decide (wLt x w)) (l:=l);rw [hd] at this;simpa using this
   rw [hd] at hy;rcases List.mem_cons.1 hy with rfl|hy
   ·exact hz
   ·have hs:(z::t).Pairwise wLt:=by rw [←hd];exact hl.sublist (List.dropWhile_sublist _)
    exact fun e=>hz (((List.pairwise_cons.1 hs).1 y hy).trans e)
theorem setLk_ok {l:List WantB} {w:WantB} (hl:LockOk l) (hw:wantE w=0) (hr:(∃x∈l,x.name=w.name)∨l.length<20):
  ∃r,setLk l w=(⟨0,none⟩,r)∧LockOk r∧∀x,x∈r↔(x∈l∧x.name≠w.name)∨x=w:=by
 obtain ⟨A,D,e,hA,hD,h1,h2⟩:=place_parts (w:=w) hl.strict;have hs:=hl.strict;rw [e] at hs;obtain ⟨sA,sD,sX⟩:=List.pairwise_append.1 hs;unfold setLk;rw [if_neg (by rw [hl.er];simp),if_neg (by rw [hw];simp)]
 cases hf:(findW w.name l).isSome with
 |true=>
  rw [if_pos rfl,hA,←List.drop_drop,hD];obtain ⟨x0,hx0,ex0⟩:=findW_isSome.1 hf
  cases D with
  |nil=>
   rw [List.append_nil] at e;subst e;exact absurd ex0 (h1 x0 hx0).ne
  |cons z D=>
   have hz:¬wLt z w:=h2 z (List.mem_cons_self ..);have ez:z.name=w.name:=by
    rw [e] at hx0;rcases List.mem_append.1 hx0 with hx|hx
    ·exact absurd ex0 (h1 x0 hx).ne
    ·rcases List.mem_cons.1 hx with rfl|hx
     ·exact ex0
     ·have:=(List.pairwise_cons.1 sD).1 x0 hx;exact absurd ((wLt.congr rfl ex0).1 this) hz
   have hD2:∀y∈D,wLt w y:=fun y hy=>(wLt.congr ez rfl).1 ((List.pairwise_cons.1 sD).1 y hy)
   refine ⟨_,rfl,⟨?_,fun x hx=>?_,?_⟩,fun x=>?_⟩
   ·have:=hl.few;rw [e] at this;simpa using this
   ·rcases List.mem_append.1 hx with hx|hx
    ·exact hl.each x (by rw [e];exact List.mem_append_left _ hx)
    ·rcases List.mem_cons.1 hx with rfl|hx
     ·exact hw
     ·exact hl.each x (by rw [e];exact List.mem_append_right _ (List.mem_cons_of_mem _ hx))
   ·refine List.pairwise_append.2 ⟨sA,List.pairwise_cons.2 ⟨hD2,(List.pairwise_cons.1 sD).2⟩,fun a ha b hb=>?_⟩;rcases List.mem_cons.1 hb with rfl|hb
    ·exact h1 a ha
    ·exact sX a ha b (List.mem_cons_of_mem _ hb)
   ·rw [e];simp only [List.drop_succ_cons,List.drop_zero,List.mem_append,List.mem_cons];constructor
    ·rintro (hx|rfl|hx)
     ·exact .inl ⟨.inl hx,(h1 x hx).ne⟩
     ·exact .inr rfl
     ·exact .inl ⟨.inr (.inr hx),(hD2 x hx).ne.symm⟩
    ·rintro (⟨hx|rfl|hx,hne⟩|rfl)
     ·exact .inl hx
     ·exact absurd ez hne
     ·exact .inr (.inr hx)
     ·exact .inr (.inl rfl)
 |false=>
  have hno:∀x∈l,x.name≠w.name:=findW_none.1 (by cases h:findW w.name l with|none=>rfl|some k=>rw [h] at hf;cases hf);have h20:l.length<20:=by
   rcases hr with ⟨x,hx,ex⟩|h
   ·exact absurd ex (hno x hx)
   ·exact h
  rw [if_neg (by simp),if_neg (by omega),hA,hD];have hD2:∀y∈D,wLt w y:=fun y hy=>Classical.byContradiction fun hn=>hno y (by rw [e];exact List.mem_append_right _ hy) (wLt.tri (h2 y hy) hn)
  refine ⟨_,rfl,⟨?_,fun x hx=>?_,?_⟩,fun x=>?_⟩
  ·rw [e] at h20;simp at h20⊢;omega
  ·rcases List.mem_append.1 hx with hx|hx
   ·exact hl.each x (by rw [e];exact List.mem_append_left _ hx)
   ·rcases List.mem_cons.1 hx with rfl|hx
    ·exact hw
    ·exact hl.each x (by rw [e];exact List.mem_append_right _ hx)
  ·refine List.pairwise_append.2 ⟨sA,List.pairwise_cons.2 ⟨hD2,sD⟩,fun a ha b hb=>?_⟩;rcases List.mem_cons.1 hb with rfl|hb
   ·exact h1 a ha
   ·exact sX a ha b hb
  ·rw [List.mem_append,List.mem_cons];constructor
   ·rintro (hx|rfl|hx)
    ·exact .inl ⟨by rw [e];exact List.mem_append_left _ hx,(h1 x hx).ne⟩
    ·exact .inr rfl
    ·exact .inl ⟨by rw [e];exact List.mem_append_right _ hx,(hD2 x hx).ne.symm⟩
   ·rintro (⟨hx,hne⟩|rfl)
    ·rw [e] at hx;rcases List.mem_append.1 hx with hx|hx
     ·exact .inl hx
     ·exact .inr (.inr hx)
    ·exact .inr (.inl rfl)
theorem part_path {l:List UInt8} (h:partB l=true):partsE l=0∧(47:UInt8)∉l:=by
 have hf:=part_free h;refine ⟨?_,hf⟩;unfold partsE;rw [cutL_no hf];simp [h]
theorem part_notIn {a b:List UInt8} (h:partB a=true) (hb:b≠[]):inB a b=false:=by
 unfold inB;have h1:Lib.hasPrefix a (b++[47])=false:=by
  cases hp:Lib.hasPrefix a (b++[47]) with
  |false=>rfl
  |true=>
   have e:=hasPrefix_app hp;exact absurd (by rw [e];simp) (part_free h)
 rw [h1,decide_eq_false hb];simp
theorem Grafted.other {l m z:List FileB} {b:ByteArray} (h:Grafted l b m z) (a:ByteArray) (hn:∀f∈m,inB (bl b++47::bl f.path) (bl a)=false):underL z a=underL l a:=by
 have hm:(m.map (joinF b)).filter (fun g=>inB (bl g.path) (bl a))=[]:=List.filter_eq_nil_iff.2 fun g hg=>by
  obtain ⟨f,hf,rfl⟩:=List.mem_map.1 hg;rw [(h.path hf).1,hn f hf];simp
 have hp:=h.perm.filter (fun g=>inB (bl g.path) (bl a));rw [List.filter_append,hm,List.append_nil] at hp;unfold underL;rw [strict_unique (h.ok.strict.sublist List.filter_sublist) (h.hl.strict.sublist List.filter_sublist) hp]
theorem held_ok {h:HeldB} (k:HeldOk h) {n:Int} {l:List FileB} (hl:getL h.trees n=some l):(treeEr l).code=0∧n=treeSum l:=k.right _ (getL_some hl)
def treeOf (h:HeldB) (w:WantB):List FileB:=(getL h.trees w.sum).getD []
structure MadeOf (h:HeldB) (P:List WantB) (all:List FileB):Prop where
 ok:TreeOk all
 under:∀w∈P,underL all w.name=treeOf h w
 mem:∀g∈all,∃w∈P,∃r,bl g.path=bl w.name++47::r
theorem names_apart {x y:WantB} (hx:partB (bl x.name)=true) (hy:partB (bl y.name)=true) (hne:x.name≠y.name) (r:List UInt8):inB (bl x.name++47::r) (bl y.name)=false:=
 not_in (part_path hy).1 (part_path hx).1 (fun e=>hne (bl_inj e.symm)) (part_notIn hy (part_ne hx).1) (part_notIn hx (part_ne hy).1)
theorem MadeOf.step {h:HeldB} {P:List WantB} {all z:List FileB} {w:WantB} (hM:MadeOf h P all) (hP:∀x∈P,partB (bl x.name)=true∧x.name≠w.name) (hw:partB (bl w.name)=true) (hg:Grafted all w.name (treeOf h w) z):MadeOf h (P++[w]) z:=by
 have h0:(underL all w.name).length=0:=by
  unfold underL;rw [List.length_map,List.filter_eq_nil_iff.2]
  ·rfl
  ·intro g hgm;obtain ⟨x,hx,r,e⟩:=hM.mem g hgm;rw [e,names_apart (hP x hx).1 hw (hP x hx).2];simp
 refine ⟨hg.ok,fun x hx=>?_,fun g hgm=>?_⟩
 ·rcases List.mem_append.1 hx with hx|hx
  ·rw [hg.other x.name fun f hf=>names_apart hw (hP x hx).1 (hP x hx).2.symm _];exact hM.under x hx
  ·obtain rfl:=List.mem_singleton.1 hx;exact hg.underEq h0
 ·rcases List.mem_append.1 (hg.perm.subset hgm) with hgm|hgm
  ·obtain ⟨x,hx,r,e⟩:=hM.mem g hgm;exact ⟨x,List.mem_append_left _ hx,r,e⟩
  ·obtain ⟨f,hf,rfl⟩:=List.mem_map.1 hgm;exact ⟨w,List.mem_append_right _ (List.mem_singleton.2 rfl),_,(hg.path hf).1⟩
theorem grafts_made (h:HeldB):∀(l P:List WantB) (all:List FileB),MadeOf h P all→(P++l).Pairwise wLt→(∀x∈P++l,partB (bl x.name)=true)→(graftsGo h all l).1=0→MadeOf h (P++l) (graftsGo h all l).2
 | [],P,all,hM,_,_,_=>by rw [List.append_nil];exact hM
 |w::l,P,all,hM,hs,hp,h0=>by
  unfold graftsGo at h0⊢;by_cases hc:(graftT all w.name ((getL h.trees w.sum).getD [])).1.code≠0
  ·rw [if_pos hc] at h0;exact absurd h0 hc
  ·rw [if_neg hc] at h0⊢;obtain ⟨hg,_⟩:=graft_ok (by simpa using hc);have hst:=hM.step (w:=w) (fun x hx=>⟨hp x (List.mem_append_left _ hx),((List.pairwise_append.1 hs).2.2 x hx w (List.mem_cons_self ..)).ne⟩) (hp w (List.mem_append_right _ (List.mem_cons_self ..))) hg;have e:P++w::l=(P++[w])++l:=by simp
   rw [e] at hs hp⊢;exact grafts_made h l (P++[w]) _ hst hs hp h0
theorem miss_none (h:HeldB):∀(l:List WantB) (i:Nat),missGo h i l=none↔∀w∈l,(ixOf w.sum h.sums).isSome=true
 | [],i=>by simp [missGo]
 |w::l,i=>by
  unfold missGo;by_cases hw:(ixOf w.sum h.sums).isSome=true
  ·rw [if_pos hw,miss_none h l (i+1)];constructor
   ·intro e x hx;rcases List.mem_cons.1 hx with rfl|hx
    ·exact hw
    ·exact e x hx
   ·exact fun e x hx=>e x (List.mem_cons_of_mem _ hx)
  ·rw [if_neg hw];exact ⟨fun e=>(by cases e),fun e=>absurd (e w (List.mem_cons_self ..)) hw⟩
theorem treeOf_some {h:HeldB} {w:WantB} (hw:(ixOf w.sum h.sums).isSome=true):getL h.trees w.sum=some (treeOf h w):=by
 unfold treeOf;have hm:=ixOf_isSome.1 hw
 cases hg:getL h.trees w.sum with
 |some t=>rfl
 |none=>
  exfalso;have key:∀(L:List (Int×List FileB)),getL L w.sum=none→w.sum∉L.map (·.1):=by
   intro L;induction L with
   |nil=>intro _ h;cases h
   |cons p L ih=>
    intro hL hm;unfold getL at hL;split at hL
    ·cases hL
    ·rename_i hne;rcases List.mem_cons.1 hm with e|hm
     ·exact hne e.symm
     ·exact ih hL hm
  exact key _ hg hm
structure Bundled (h:HeldB) (l:List WantB) (all:List FileB):Prop where
 lock:LockOk l
 held:∀w∈l,(ixOf w.sum h.sums).isSome=true
 made:MadeOf h l all
 eq:(graftsGo h [] l)=(0,all)
theorem bundle_ok {h:HeldB} {l:List WantB} (h0:(bundleLk h l).1.code=0):∃all,bundleLk h l=(⟨0,none⟩,packL all)∧Bundled h l all:=by
 unfold bundleLk at h0⊢;by_cases h1:(lockEr l).code≠0
 ·rw [if_pos h1] at h0;exact absurd h0 h1
 rw [if_neg h1] at h0⊢;have hl:=(lockOk_iff l).1 (by simpa using h1)
 cases hm:missGo h 0 l with
 |some i=>rw [hm] at h0;cases h0
 |none=>
  rw [hm] at h0;simp only at h0⊢;by_cases h2:(graftsGo h [] l).1≠0
  ·rw [if_pos h2] at h0;exact absurd h0 h2
  rw [if_neg h2];have h3:(graftsGo h [] l).1=0:=by simpa using h2
  have hp:∀x∈[]++l,partB (bl x.name)=true:=fun x hx=>(wantE_zero (hl.each x hx)).name
  have hmade:=grafts_made h l [] [] ⟨(treeOk_iff []).1 rfl,(fun w hw=>by cases hw),(fun g hg=>by cases hg)⟩ hl.strict hp h3;exact ⟨_,rfl,⟨hl,(miss_none h l 0).1 hm,hmade,Prod.ext h3 rfl⟩⟩
theorem bundle_bad {h:HeldB} {l:List WantB} (h0:(bundleLk h l).1.code≠0):(bundleLk h l).2=[]:=by
 unfold bundleLk at h0⊢;by_cases h1:(lockEr l).code≠0
 ·rw [if_pos h1]
 rw [if_neg h1] at h0⊢
 cases hm:missGo h 0 l with
 |some i=>rfl
 |none=>
  rw [hm] at h0;simp only at h0⊢;by_cases h2:(graftsGo h [] l).1≠0
  ·rw [if_pos h2]
  ·rw [if_neg h2] at h0;exact absurd rfl h0
structure Loaded (h:HeldB) (o:HeldB) (P:List WantB):Prop where
 ok:HeldOk o
 most:o.most=40
 len:o.trees.length≤P.length
 from':∀p∈o.trees,getL h.trees p.1=some p.2
 has:∀w∈P,w.sum∈o.sums
theorem Loaded.step {h o:HeldB} {P:List WantB} {w:WantB} (hk:HeldOk h) (hL:Loaded h o P) (hP:P.length<40) (hw:(ixOf w.sum h.sums).isSome=true):
  (putH o (treeOf h w)).1.code=0∧Loaded h (putH o (treeOf h w)).2.2 (P++[w]):=by
 have hg:=treeOf_some hw;have hr:=held_ok hk hg;have hok:=putH_ok (treeOf h w) hL.ok;have hlen:=hL.len;unfold putH at hok⊢;rw [if_neg (by rw [hr.1];simp),if_neg (by rw [hL.most];simp),←hr.2] at hok⊢;by_cases hx:(ixOf w.sum o.sums).isSome=true
 ·rw [if_pos hx];refine ⟨rfl,hL.ok,hL.most,by rw [List.length_append];exact Nat.le_trans hlen (Nat.le_add_right _ _),hL.from',fun x hxm=>?_⟩;rcases List.mem_append.1 hxm with hxm|hxm
  ·exact hL.has x hxm
  ·obtain rfl:=List.mem_singleton.1 hxm;exact ixOf_isSome.1 hx
 ·rw [if_neg hx] at hok⊢;rw [if_neg (by rw [hL.most];omega),List.drop_zero] at hok⊢;refine ⟨rfl,hok,hL.most,by simp;omega,fun p hp=>?_,fun x hxm=>?_⟩
  ·rcases List.mem_append.1 hp with hp|hp
   ·exact hL.from' p hp
   ·obtain rfl:=List.mem_singleton.1 hp;exact hg
  ·show x.sum∈(o.trees++[(w.sum,treeOf h w)]).map (·.1);rw [List.map_append,List.mem_append];rcases List.mem_append.1 hxm with hxm|hxm
   ·exact .inl (hL.has x hxm)
   ·obtain rfl:=List.mem_singleton.1 hxm;exact .inr (by simp)
theorem Loaded.get {h o:HeldB} {P:List WantB} (hL:Loaded h o P) {w:WantB} (hw:w∈P) (hs:(ixOf w.sum h.sums).isSome=true):getL o.trees w.sum=some (treeOf h w):=by
 have hm:=hL.has w hw;have:=treeOf_some (h:=o) (w:=w) (ixOf_isSome.2 hm);rw [this];have h2:=hL.from' _ (getL_some this);rw [treeOf_some hs] at h2;exact h2.symm
theorem treeOf_get {h:HeldB} {w:WantB} {t:List FileB} (hg:getL h.trees w.sum=some t):treeOf h w=t:=by unfold treeOf;rw [hg];rfl
theorem missGo_step {h:HeldB} {l:List WantB} {k:Nat} (hk:k<l.length):missGo h k (l.drop k)=if (getL h.trees l[k].sum).isSome=true then missGo h (k+1) (l.drop (k+1)) else some k:=by
 rw [List.drop_eq_getElem_cons hk];show (if (ixOf l[k].sum h.sums).isSome=true then missGo h (k+1) (l.drop (k+1)) else some k)=_;rw [has_get]
theorem miss_at {h:HeldB} {l:List WantB} {k:Nat} (hk:k<l.length) (hF:missGo h 0 l=missGo h k (l.drop k)) (hn:getL h.trees l[k].sum=none):missGo h 0 l=some k:=by rw [hF,missGo_step hk,hn];rfl
theorem miss_next {h:HeldB} {l:List WantB} {k:Nat} {t:List FileB} (hk:k<l.length) (hF:missGo h 0 l=missGo h k (l.drop k)) (hs:getL h.trees l[k].sum=some t):missGo h 0 l=missGo h (k+1) (l.drop (k+1)):=by rw [hF,missGo_step hk,hs];rfl
theorem miss_end {h:HeldB} {l:List WantB} (hF:missGo h 0 l=missGo h l.length (l.drop l.length)):missGo h 0 l=none:=by rw [hF,List.drop_length];rfl
theorem bundle_lock {h:HeldB} {l:List WantB} (h1:(lockEr l).code≠0):bundleLk h l=(lockEr l,[]):=by unfold bundleLk;rw [if_pos h1]
theorem bundle_miss {h:HeldB} {l:List WantB} {k:Nat} (h1:(lockEr l).code=0) (hm:missGo h 0 l=some k):bundleLk h l=(⟨6,some (k:Int)⟩,[]):=by
 unfold bundleLk;rw [if_neg (by rw [h1];simp),hm]
theorem bundle_graft {h:HeldB} {l:List WantB} (h1:(lockEr l).code=0) (hm:missGo h 0 l=none):bundleLk h l=if (graftsGo h [] l).1≠0 then (⟨(graftsGo h [] l).1,none⟩,[]) else (⟨0,none⟩,packL (graftsGo h [] l).2):=by
 unfold bundleLk;rw [if_neg (by rw [h1];simp),hm]
theorem grafts_step {h:HeldB} {l:List WantB} {k:Nat} {all:List FileB} (hk:k<l.length):graftsGo h all (l.drop k)=if (graftT all l[k].name (treeOf h l[k])).1.code≠0 then ((graftT all l[k].name (treeOf h l[k])).1.code,[]) else graftsGo h (graftT all l[k].name (treeOf h l[k])).2 (l.drop (k+1)):=by
 rw [List.drop_eq_getElem_cons hk];rfl
theorem grafts_bad {h:HeldB} {l:List WantB} {k c:Nat} {all:List FileB} (hk:k<l.length) (hF:graftsGo h [] l=graftsGo h all (l.drop k)) (hc:(graftT all l[k].name (treeOf h l[k])).1.code=c+1):graftsGo h [] l=(c+1,[]):=by
 rw [hF,grafts_step hk,if_pos (by omega),hc]
theorem grafts_next {h:HeldB} {l:List WantB} {k:Nat} {all:List FileB} (hk:k<l.length) (hF:graftsGo h [] l=graftsGo h all (l.drop k)) (hc:(graftT all l[k].name (treeOf h l[k])).1.code=0):graftsGo h [] l=graftsGo h (graftT all l[k].name (treeOf h l[k])).2 (l.drop (k+1)):=by
 rw [hF,grafts_step hk,if_neg (by omega)]
theorem grafts_end {h:HeldB} {l:List WantB} {all:List FileB} (hF:graftsGo h [] l=graftsGo h all (l.drop l.length)):graftsGo h [] l=(0,all):=by rw [hF,List.drop_length];rfl
theorem bundle_bad2 {h:HeldB} {l:List WantB} {c:Nat} (h1:(lockEr l).code=0) (hm:missGo h 0 l=none) (hg:graftsGo h [] l=(c+1,[])):bundleLk h l=(⟨c+1,none⟩,[]):=by
 rw [bundle_graft h1 hm,hg];rfl
theorem bundle_good {h:HeldB} {l:List WantB} {all:List FileB} (h1:(lockEr l).code=0) (hm:missGo h 0 l=none) (hg:graftsGo h [] l=(0,all)):bundleLk h l=(⟨0,none⟩,packL all):=by
 rw [bundle_graft h1 hm,hg];rfl
def SStep (all:List FileB) (l:List WantB) (k:Nat) (acc:List (List FileB)):Prop:=
 (splitGo all 0 l).1=(splitGo all k (l.drop k)).1∧(splitGo all 0 l).2=acc++(splitGo all k (l.drop k)).2
theorem SStep.zero (all:List FileB) (l:List WantB):SStep all l 0 []:=⟨rfl,rfl⟩
theorem splitGo_step {all:List FileB} {l:List WantB} {k:Nat} (hk:k<l.length):splitGo all k (l.drop k)=
  if (treeEr (underL all l[k].name)).code≠0 then (⟨(treeEr (underL all l[k].name)).code,some (k:Int)⟩,[])
  else if treeSum (underL all l[k].name)≠l[k].sum then (⟨12,some (k:Int)⟩,[])
  else ((splitGo all (k+1) (l.drop (k+1))).1,underL all l[k].name::(splitGo all (k+1) (l.drop (k+1))).2):=by
 rw [List.drop_eq_getElem_cons hk];rfl
theorem split_lock {l:List WantB} {s:List UInt8} (h1:(lockEr l).code≠0):splitLk l s=(lockEr l,[]):=by unfold splitLk;rw [if_pos h1]
theorem split_read {l:List WantB} {s:List UInt8} (h1:(lockEr l).code=0) (h2:(readEr s).code≠0):splitLk l s=(readEr s,[]):=by unfold splitLk;rw [if_neg (by rw [h1];simp),if_pos h2]
theorem split_from {l:List WantB} {s:List UInt8} (h1:(lockEr l).code=0) (h2:(readEr s).code=0):splitLk l s=if (splitGo (readT s) 0 l).1.code≠0 then ((splitGo (readT s) 0 l).1,[]) else (⟨0,none⟩,(splitGo (readT s) 0 l).2):=by
 unfold splitLk;rw [if_neg (by rw [h1];simp),if_neg (by rw [h2];simp)]
theorem SStep.tree {all:List FileB} {l:List WantB} {k c:Nat} {acc:List (List FileB)} {s:List UInt8} (h:SStep all l k acc) (hk:k<l.length) (hF:splitLk l s=if (splitGo all 0 l).1.code≠0 then ((splitGo all 0 l).1,[]) else (⟨0,none⟩,(splitGo all 0 l).2))
  (hc:(treeEr (underL all l[k].name)).code=c+1):splitLk l s=(⟨c+1,some (k:Int)⟩,[]):=by
 have e:splitGo all k (l.drop k)=(⟨c+1,some (k:Int)⟩,[]):=by rw [splitGo_step hk,if_pos (by omega),hc]
 rw [hF,if_pos (by rw [h.1,e];simp),h.1,e]
theorem SStep.sum {all:List FileB} {l:List WantB} {k:Nat} {acc:List (List FileB)} {s:List UInt8} (h:SStep all l k acc) (hk:k<l.length) (hF:splitLk l s=if (splitGo all 0 l).1.code≠0 then ((splitGo all 0 l).1,[]) else (⟨0,none⟩,(splitGo all 0 l).2))
  (hc:(treeEr (underL all l[k].name)).code=0) (hs:treeSum (underL all l[k].name)≠l[k].sum):splitLk l s=(⟨12,some (k:Int)⟩,[]):=by
 have e:splitGo all k (l.drop k)=(⟨12,some (k:Int)⟩,[]):=by rw [splitGo_step hk,if_neg (by omega),if_pos hs]
 rw [hF,if_pos (by rw [h.1,e];simp),h.1,e]
theorem SStep.next {all:List FileB} {l:List WantB} {k:Nat} {acc:List (List FileB)} (h:SStep all l k acc) (hk:k<l.length) (hc:(treeEr (underL all l[k].name)).code=0) (hs:treeSum (underL all l[k].name)=l[k].sum):SStep all l (k+1) (acc++[underL all l[k].name]):=by
 unfold SStep at h⊢;rw [splitGo_step hk,if_neg (by omega),if_neg (by rw [hs];simp)] at h;refine ⟨h.1,?_⟩;rw [h.2];simp
theorem SStep.done {all:List FileB} {l:List WantB} {acc:List (List FileB)} {s:List UInt8} (h:SStep all l l.length acc) (hF:splitLk l s=if (splitGo all 0 l).1.code≠0 then ((splitGo all 0 l).1,[]) else (⟨0,none⟩,(splitGo all 0 l).2)):splitLk l s=(⟨0,none⟩,acc):=by
 unfold SStep at h;rw [List.drop_length] at h;have e:splitGo all l.length []=(⟨0,none⟩,[]):=rfl;rw [e] at h;rw [hF,if_neg (by rw [h.1];simp),h.2,List.append_nil]
theorem splitGo_each (all:List FileB):∀(l:List WantB) (i:Nat),∀t∈(splitGo all i l).2,(treeEr t).code=0
 | [],i=>fun t ht=>by cases ht
 |w::l,i=>by
  unfold splitGo;split
  ·intro t ht;cases ht
  ·rename_i h1;split
   ·intro t ht;cases ht
   ·intro t ht;rcases List.mem_cons.1 ht with rfl|ht
    ·simpa using h1
    ·exact splitGo_each all l (i+1) t ht
theorem splitLk_each (l:List WantB) (s:List UInt8):∀t∈(splitLk l s).2,(treeEr t).code=0:=by
 unfold splitLk;split
 ·intro t ht;cases ht
 ·split
  ·intro t ht;cases ht
  ·split
   ·intro t ht;cases ht
   ·exact splitGo_each _ _ _
theorem splitGo_len (all:List FileB):∀(l:List WantB) (i:Nat),(splitGo all i l).2.length≤l.length
 | [],i=>Nat.le_refl _
 |w::l,i=>by
  unfold splitGo;split
  ·exact Nat.zero_le _
  ·split
   ·exact Nat.zero_le _
   ·have:=splitGo_len all l (i+1);simp only [List.length_cons];omega
theorem splitLk_len (l:List WantB) (s:List UInt8):(splitLk l s).2.length≤l.length:=by
 unfold splitLk;split
 ·exact Nat.zero_le _
 ·split
  ·exact Nat.zero_le _
  ·split
   ·exact Nat.zero_le _
   ·exact splitGo_len _ _ _
theorem setLk_right {l:List WantB} {w:WantB} (hl:LockOk l) (h:(setLk l w).1.code=0):LockOk (setLk l w).2:=by
 have hw:wantE w=0:=by
  unfold setLk at h;split at h
  ·rename_i h1;exact absurd h h1
  ·split at h
   ·rename_i h1;exact absurd h h1
   ·rename_i h1;simpa using h1
 have hr:(∃x∈l,x.name=w.name)∨l.length<20:=by
  by_cases hf:(findW w.name l).isSome=true
  ·exact .inl (findW_isSome.1 hf)
  ·refine .inr ?_;unfold setLk at h;rw [if_neg (by rw [hl.er];simp),if_neg (by rw [hw];simp),if_neg hf] at h;split at h
   ·cases h
   ·omega
 obtain ⟨r,e,ok,_⟩:=setLk_ok hl hw hr;rw [e];exact ok
theorem dropLk_right {l:List WantB} {n:ByteArray} (hl:LockOk l) (h:(dropLk l n).1.code=0):LockOk (dropLk l n).2:=by
 unfold dropLk at h⊢;rw [if_neg (by rw [hl.er];simp)] at h⊢
 cases hf:findW n l with
 |none=>rw [hf] at h;cases h
 |some k=>exact hl.sub (List.eraseIdx_sublist ..)
theorem lockOk_nil:LockOk []:=⟨Nat.zero_le _,(fun w hw=>by cases hw),List.Pairwise.nil⟩
def prevW (l:List WantB) (k:Nat):Option WantB:=if k=0 then none else l[k-1]?
theorem lockGo_step {l:List WantB} {k:Nat} (hk:k<l.length):lockGo (prevW l k) k (l.drop k)=if lockE (prevW l k) l[k]≠0 then some (k,lockE (prevW l k) l[k]) else lockGo (prevW l (k+1)) (k+1) (l.drop (k+1)):=by
 rw [List.drop_eq_getElem_cons hk];have h:prevW l (k+1)=some l[k]:=by
  unfold prevW;rw [if_neg (by omega),show k+1-1=k by omega,List.getElem?_eq_getElem hk]
 rw [h];rfl
theorem lockEr_at {l:List WantB} {k c:Nat} (h20:l.length≤20) (hk:k<l.length) (hF:lockGo none 0 l=lockGo (prevW l k) k (l.drop k)) (hc:lockE (prevW l k) l[k]=c+1):lockEr l=⟨c+1,some (k:Int)⟩:=by
 have:lockGo none 0 l=some (k,c+1):=by rw [hF,lockGo_step hk,if_pos (by omega),hc]
 unfold lockEr;rw [if_neg (by omega),this]
theorem lockGo_next {l:List WantB} {k:Nat} (hk:k<l.length) (hF:lockGo none 0 l=lockGo (prevW l k) k (l.drop k)) (hc:lockE (prevW l k) l[k]=0):lockGo none 0 l=lockGo (prevW l (k+1)) (k+1) (l.drop (k+1)):=by
 rw [hF,lockGo_step hk,if_neg (by omega)]
theorem lockEr_end {l:List WantB} (h20:l.length≤20) (hF:lockGo none 0 l=lockGo (prevW l l.length) l.length (l.drop l.length)):lockEr l=⟨0,none⟩:=by
 have:lockGo none 0 l=none:=by rw [hF,List.drop_length];rfl
 unfold lockEr;rw [if_neg (by omega),this]
theorem lockEr_many {l:List WantB} (h:20<l.length):lockEr l=⟨8,none⟩:=by unfold lockEr;rw [if_pos h]
theorem lockE_want {l:List WantB} {k c:Nat} (hk:k<l.length) (h:wantE l[k]=c+1):lockE (prevW l k) l[k]=c+1:=by unfold lockE;rw [if_pos (by omega),h]
theorem lockE_first {l:List WantB} (hk:0<l.length) (h:wantE l[0]=0):lockE (prevW l 0) l[0]=0:=by
 unfold lockE;rw [if_neg (by omega)];rfl
theorem lockE_from {l:List WantB} {k:Nat} (hk:k<l.length) (h0:0<k) (h:wantE l[k]=0):lockE (prevW l k) l[k]=if leqB (bl l[k].name) (bl (l[k-1]'(by omega)).name)=true then 9 else 0:=by
 unfold lockE;rw [if_neg (by omega)];unfold prevW;rw [if_neg (by omega),List.getElem?_eq_getElem (by omega)]
end Go.Proofs.YtaabgmbjmfjdjaaGreatDoor
