import Derived.Test.YtaabgmbjmfjdjaaGreatDoorJWantsUp
import Derived.Test.YtaabgmbjmfjdjaaGreatDoorJRefLinkUp
import Derived.Test.YtaabgmbjmfjdjaaGreatDoorJSummed
import Derived.Test.YtaabgmbjmfjdjaaGreatDoorJTreeLoops
import Derived.Test.YtaabgmbjmfjdjaaGreatDoorJTreeDropsEtc
import Derived.Test.YtaabgmbjmfjdjaaGreatDoorJRefTreeEtc
import Derived.Test.YtaabgmbjmfjdjaaGreatDoorJPackedUpEtc
import Derived.Test.YtaabgmbjmfjdjaaGreatDoorJPackReads
import Derived.Test.YtaabgmbjmfjdjaaGreatDoorJRowedEtc
import Derived.Test.YtaabgmbjmfjdjaaGreatDoorJPressedUpEtc
import Derived.BigQuiet
import Derived.Test.YtaabgmbjmfjdjaaGreatDoorJParsedEtc
import Derived.Test.YtaabgmbjmfjdjaaGreatDoorJPlainly
import Derived.IntWalk
import Derived.Deep.CutBlock
import Derived.Deep.DeepCutAuto
import Derived.Deep.QuietTactic
import Derived.Deep.RegionWith
namespace Go.Proofs.YtaabgmbjmfjdjaaGreatDoor
open Go Go.RowKit
def RPost (r:Er×List FileB) (w:World) (e:Ending) (w':World):Prop:=
 (∃v,e=.returned (.tuple #[v,.agg (erA r.1)])∧Hid (FOwn w' w.heap.size v r.2))∧Below w.heap.size w w'
theorem RPost.fault {r:Er×List FileB} {w w':World} {v:Value} {c:Nat} {a:Int} (hc:r.1.code=c) (ha:r.1.at?.getD (-1)=a) (h:FOwn w' w.heap.size v r.2) (hb:Below w.heap.size w w'):RPost r w (.returned (.tuple #[v,.agg #[.int .i64 c,.int .i64 a]])) w':=
 ⟨⟨v,by unfold erA;rw [hc,ha],h⟩,hb⟩
def NoLine (s:ByteArray) (k q:Nat):Prop:=(10:UInt8)∉((bl s).drop k).take (q-k)
theorem NoLine.next {s:ByteArray} {k q:Nat} (h:NoLine s k q) (hk:k≤q) (hq:q<s.size) (hc:s[q]≠10):NoLine s k (q+1):=by
 unfold NoLine at h⊢;have hql:q-k<((bl s).drop k).length:=by rw [List.length_drop,bl_length];omega
 rw [show q+1-k=(q-k)+1 by omega,List.take_add_one,List.getElem?_eq_getElem hql];intro hm;rcases List.mem_append.1 hm with hm|hm
 ·exact h hm
 ·simp only [Option.toList_some,List.mem_singleton] at hm;rw [List.getElem_drop] at hm;have:(bl s)[k+(q-k)]'(by rw [bl_length];omega)=s[q]:=by
   have e:k+(q-k)=q:=by omega
   simp only [e];rfl
  rw [this] at hm;exact hc hm.symm
def RReadOwn (s:ByteArray) (w:World) (e:Ending) (w':World):Prop:=
 (∃v:Value,e=.returned (.tuple #[v,.agg (erA (readEr (bl s)))])∧Hid (FOwn w' w.heap.size v (readT (bl s))))∧Below w.heap.size w w'
theorem RReadOwn.non {s:ByteArray} {w w':World} {er:Er} (h:readEr (bl s)=er) (h2:readT (bl s)=[]) (hb:Below w.heap.size w w'):RReadOwn s w (.returned (.tuple #[.slice none 0 0,.agg (erA er)])) w':=
 ⟨⟨_,by rw [h],by show FOwn _ _ _ _;rw [h2];exact FOwn.nil _ _⟩,hb⟩
theorem RReadOwn.bad {s:ByteArray} {w w':World} {acc:List FileB} (h20:¬20000<(bl s).length) (ha:allL (bl s)=(acc,false)) (hb:Below w.heap.size w w'):RReadOwn s w (.returned (.tuple #[.slice none 0 0,.agg #[.int .i64 1,.int .i64 acc.length]])) w':=
 RReadOwn.non (readEr_bad h20 ha).1 (readEr_bad h20 ha).2 hb
theorem RPost.low {r:Er×List FileB} {w w1 w':World} {e:Ending} (h:RPost r w1 e w') (hb:Below w.heap.size w w1):RPost r w e w':=by
 obtain ⟨⟨v,he,hO⟩,hb2⟩:=h;exact ⟨⟨v,he,FOwn.low hO.out hb.size⟩,hb.trans (hb2.mono hb.size)⟩
def FSrc (w:World) (v:Value) (m:List FileB):Prop:=
 v=.slice none 0 0∧m=[]∨∃ad cap,v=.slice (some ad) m.length cap∧∀k,(hk:k<m.length)→∃b off,ad=⟨b,off,none⟩∧w.cell? ⟨b,off+k*3,none⟩=some (.string m[k].path)∧w.cell? ⟨b,off+k*3+1,none⟩=some (.bool m[k].run)∧w.cell? ⟨b,off+k*3+2,none⟩=some (.string m[k].text)
theorem FSrc.none (w:World):FSrc w (.slice none 0 0) []:= .inl ⟨rfl,rfl⟩
theorem FSrc.drop0 {w:World} {ao:Option Addr} {n cap k:Nat} {l:List FileB} (h:FSrc w (.slice ao n cap) l) (hn:l.length=n) (hc:n≤cap) (hk:k≤n):FSrc w (.slice (if cap=k then ao else ao.map (·.add (k*3))) (n-k) (cap-k)) (l.drop k):=by
 rcases h with ⟨h,rfl⟩|⟨ad,c,h,hcell⟩
 ·injection h with e1 e2 e3
  subst e1 e2 e3;left;simp
 ·injection h with e1 e2 e3
  subst e1 e3;right;by_cases hck:cap=k
  ·subst hck;have:n=cap:=by omega
   subst this;rw [if_pos rfl];exact ⟨ad,0,by simp [hn],fun j hj=>absurd hj (by simp [hn])⟩
  ·rw [if_neg hck];refine ⟨ad.add (k*3),cap-k,by simp [hn],fun j hj=>?_⟩;rw [List.length_drop] at hj;obtain ⟨b,off,rfl,this⟩:=hcell (k+j) (by omega);rw [List.getElem_drop];refine ⟨b,off+k*3,by rw [Addr.add_lit],?_⟩;rw [show off+k*3+j*3=off+(k+j)*3 by omega];exact this
theorem FSrc.dropS {w:World} {b off n cap k:Nat} {l:List FileB} (h:FSrc w (.slice (some ⟨b,off,Option.none⟩) n cap) l) (hn:l.length=n) (hc:n≤cap) (hk:k≤n):FSrc w (.slice (if cap=k then some ⟨b,off,Option.none⟩ else some ⟨b,off+k*3,Option.none⟩) (n-k) (cap-k)) (l.drop k):=by
 have:=h.drop0 hn hc hk;rw [Option.map_some,Addr.add_lit] at this;exact this
theorem FSrc.one (w:World) (f:FileB) (t:TypeId):FSrc (w.alloc (.cells #[.string f.path,.bool f.run,.string f.text] t)) (.slice (some ⟨w.heap.size,0,Option.none⟩) 1 1) [f]:=by
 refine .inr ⟨⟨w.heap.size,0,Option.none⟩,1,rfl,fun k hk=>?_⟩;have hA:=heap_alloc_new w (.cells #[.string f.path,.bool f.run,.string f.text] t);have:k=0:=by simpa using hk
 subst this;refine ⟨_,_,rfl,?_,?_,?_⟩<;>rw [Lib.cell_of_heap hA]<;>rfl
theorem FArg.src {w:World} {v:Value} {l:List FileB} (h:FArg w v l):FSrc w v l:=by
 obtain ⟨⟨ao,cap,rfl,h1,h2,h3⟩,hn⟩:=h
 cases ao with
 |none=>
  obtain ⟨h0,rfl⟩:=hn _ _ rfl;left;rw [h0];exact ⟨rfl,List.eq_nil_of_length_eq_zero h0⟩
 |some ad=>
  right;refine ⟨ad,cap,rfl,fun k hk=>?_⟩;obtain ⟨b,off,e,_,hc⟩:=h3 k hk;injection e with e
  exact ⟨b,off,e,hc k hk⟩
theorem FOwn.src {w:World} {base:Nat} {v:Value} {l:List FileB} (h:FOwn w base v l):FSrc w v l:=h.arg.src
theorem FSrc.ext {w w':World} {v:Value} {l:List FileB} {B:Nat} (h:FSrc w v l) (hb:Below B w w') (hl:∀b o c n,v=.slice (some ⟨b,o,Option.none⟩) n c→b<B):FSrc w' v l:=by
 rcases h with h|⟨ad,c,rfl,hcell⟩
 ·exact .inl h
 ·refine .inr ⟨ad,c,rfl,fun k hk=>?_⟩;obtain ⟨b,off,rfl,q0,q1,q2⟩:=hcell k hk;have hB:=hl _ _ _ _ rfl;exact ⟨b,off,rfl,by rw [hb.cell (p:=⟨b,off+k*3,Option.none⟩) hB];exact q0,by rw [hb.cell (p:=⟨b,off+k*3+1,Option.none⟩) hB];exact q1,by rw [hb.cell (p:=⟨b,off+k*3+2,Option.none⟩) hB];exact q2⟩
abbrev encRun (r:Nat×UInt8):List Value:=[.int .i64 r.1,.int .u8 r.2.toNat]
abbrev faultV (c a:Int):Value:= .agg #[.int .i64 c,.int .i64 a]
def rlist (r:List (Nat×UInt8)×Option Nat):List (Nat×UInt8):=match r.2 with
 |none=>r.1
 |some _=>[]
def rcode (r:List (Nat×UInt8)×Option Nat):Int:=match r.2 with
 |none=>0
 |some _=>1
def rat (r:List (Nat×UInt8)×Option Nat):Int:=match r.2 with
 |none=>-1
 |some p=>p
theorem r_some {r:List (Nat×UInt8)×Option Nat} {acc:List (Nat×UInt8)} {p:Nat} (h:r=(acc,some p)):rlist r=[]∧rcode r=1∧rat r=p:=by subst h;exact ⟨rfl,rfl,rfl⟩
def RunsEnd (w:World) (r:List (Nat×UInt8)×Option Nat) (e:Ending) (w':World):Prop:=
 ∃v,e=.returned (.tuple #[v,faultV (rcode r) (rat r)])∧Row encRun 2 w' v (rlist r)∧Below w.heap.size w w'
theorem RunsEnd.bad {w w':World} {r:List (Nat×UInt8)×Option Nat} {acc:List (Nat×UInt8)} {p:Nat} (h:r=(acc,some p)) (q:Int) (hq:q=p) (hb:Below w.heap.size w w'):
  RunsEnd w r (.returned (.tuple #[.slice none 0 0,faultV 1 q])) w':=by
 obtain ⟨h1,h2,h3⟩:=r_some h;exact ⟨_,by rw [h2,h3,hq],by rw [h1];exact Row.nil _ _ _,hb⟩
def RWOpenPost (r:Nat×List FileB) (w:World) (e:Ending) (w':World):Prop:=
 (∃v,e=.returned (.tuple #[v,.int .i64 r.1])∧Hid (FGot w' w.heap.size r.1 v r.2))∧Below w.heap.size w w'
theorem RWOpenPost.none {r:Nat×List FileB} {w w':World} {c:Nat} (h:r=(c,[])) (hb:Below w.heap.size w w'):RWOpenPost r w (.returned (.tuple #[.slice none 0 0,.int .i64 c])) w':=
 ⟨⟨_,by rw [h],by rw [h];exact FGot.of (FOwn.nil _ _)⟩,hb⟩
theorem RWOpenPost.some {r:Nat×List FileB} {w w':World} {v:Value} {c:Nat} {l:List FileB} (h:r=(c,l)) (hv:FOwn w' w.heap.size v l) (hb:Below w.heap.size w w'):RWOpenPost r w (.returned (.tuple #[v,.int .i64 c])) w':=
 ⟨⟨_,by rw [h],by rw [h];exact FGot.of hv⟩,hb⟩
end Go.Proofs.YtaabgmbjmfjdjaaGreatDoor
