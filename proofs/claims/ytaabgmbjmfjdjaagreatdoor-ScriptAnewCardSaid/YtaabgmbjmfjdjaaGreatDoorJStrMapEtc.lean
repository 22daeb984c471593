import Derived.Test.YtaabgmbjmfjdjaaGreatDoorJPlainly
import Derived.Test.YtaabgmbjmfjdjaaGreatDoorProg
import Derived.Maps.OwnSet
import Derived.Maps.StringElems
import Derived.StringKeys
import Derived.Test.YtaabgmbjmfjdjaaGreatDoorJHeldUp
import Derived.Test.YtaabgmbjmfjdjaaGreatDoorJNetPlainEtc
import Derived.Test.YtaabgmbjmfjdjaaGreatDoorJRefLinkUp
import Derived.Test.YtaabgmbjmfjdjaaGreatDoorJErrors
namespace Go.Proofs.YtaabgmbjmfjdjaaGreatDoor
open Go Go.RowKit Go.Maps
set_option maxHeartbeats 1000000
set_option maxRecDepth 100000
theorem Tryz.strKeyed:Keyed Tryz.prog 9:=string_keyed Tryz.underlying9
theorem keyLit (s:ByteArray) (h:s.size≤maxLen):keyOf Tryz.prog 9 (.string s)=some (.string (bl s)):=WideMaps.keyOf_string_mk Tryz.underlying9 h
def MapIs (R:Value→Option (DataW Unit×List MemPlace)) (w:World) (b m:Nat) (f:ByteArray→Option (DataW Unit)):Prop:=
 ∃D,w.ownsMap Tryz.prog 9 R b m D∧Maps.size D=m∧(∀s,Maps.has D (.string (bl s))=(f s).isSome)∧∀s z,D.atKey (.string (bl s)) z=(f s).getD z
theorem ownsMap_tight {P:Program} {k:TypeId} {R:Value→Option (DataW Unit×List MemPlace)} {w:World} {b n:Nat} {D:DataW Unit} (h:w.ownsMap P k R b n D):w.ownsMap P k R b (Maps.size D) D:=by
 obtain ⟨es,clock,hb,F,hs,rfl⟩:=h;exact ⟨es,clock,hb,F,by simp [Maps.size,length_sorted],rfl⟩
theorem key_ne {s u:ByteArray} (h:s≠u):(Lit.string (bl s))≠.string (bl u):=fun e=>h (by
 injection e with e
 obtain ⟨⟨a⟩⟩:=s;obtain ⟨⟨c⟩⟩:=u;have:a=c:=e;rw [this])
theorem MapIs.made {R:Value→Option (DataW Unit×List MemPlace)} (w:World):MapIs R (w.alloc (.map #[] 0)) w.heap.size 0 (fun _=>none):=
 ⟨.map [],World.ownsMap_made _ _ _ _,rfl,fun _=>rfl,fun _ _=>rfl⟩
theorem MapIs.keep {R:Value→Option (DataW Unit×List MemPlace)} {w w':World} {b m:Nat} {f:ByteArray→Option (DataW Unit)} (h:MapIs R w b m f) (hb:w'.heap[b]? =w.heap[b]?):MapIs R w' b m f:=by
 obtain ⟨D,⟨es,clock,h1,F,hs,hD⟩,h2⟩:=h;exact ⟨D,⟨es,clock,hb.trans h1,F,hs,hD⟩,h2⟩
theorem MapIs.lt {R:Value→Option (DataW Unit×List MemPlace)} {w:World} {b m:Nat} {f:ByteArray→Option (DataW Unit)} (h:MapIs R w b m f):b<w.heap.size:=by
 obtain ⟨D,h1,_⟩:=h;exact h1.lt
theorem MapIs.isMap {R:Value→Option (DataW Unit×List MemPlace)} {w:World} {b m:Nat} {f:ByteArray→Option (DataW Unit)} (h:MapIs R w b m f):∃es c,w.heap[b]? =some (.map es c):=by
 obtain ⟨D,⟨es,clock,h1,_⟩,_⟩:=h;exact ⟨es,clock,h1⟩
theorem MapIs.put {R:Value→Option (DataW Unit×List MemPlace)} {w w':World} {b m n:Nat} {f:ByteArray→Option (DataW Unit)} {D:DataW Unit} (h1:w.ownsMap Tryz.prog 9 R b m D) (h2:Maps.size D=m) (h3:∀s,Maps.has D (.string (bl s))=(f s).isSome) (h4:∀s z,D.atKey (.string (bl s)) z=(f s).getD z)
  (s:ByteArray) (d:DataW Unit) (hw:w'.ownsMap Tryz.prog 9 R b n (D.put (.string (bl s)) d)):MapIs R w' b (if (f s).isSome=true then m else m+1) (fun u=>if u=s then some d else f u):=by
 have hsz:Maps.size (D.put (.string (bl s)) d)=if (f s).isSome=true then m else m+1:=by
  rw [size_put (h1.tidy Tryz.strKeyed),h3,h2]
 refine ⟨_,by rw [←hsz];exact ownsMap_tight hw,hsz,fun u=>?_,fun u z=>?_⟩
 ·by_cases hu:u=s
  ·subst hu;rw [has_put_same (k:= .string (bl u)) h1.isMap trivial];simp
  ·rw [has_put_other (key_ne hu),h3];simp [hu]
 ·by_cases hu:u=s
  ·subst hu;rw [atKey_put_same (k:= .string (bl u)) h1.isMap trivial];simp
  ·rw [atKey_put_other (key_ne hu),h4];simp [hu]
theorem MapIs.del {R:Value→Option (DataW Unit×List MemPlace)} {w w':World} {b m n:Nat} {f:ByteArray→Option (DataW Unit)} {D:DataW Unit} (h1:w.ownsMap Tryz.prog 9 R b m D) (h2:Maps.size D=m) (h3:∀s,Maps.has D (.string (bl s))=(f s).isSome) (h4:∀s z,D.atKey (.string (bl s)) z=(f s).getD z)
  (s:ByteArray) (hw:w'.ownsMap Tryz.prog 9 R b n (D.del (.string (bl s)))):∃k,k≤m∧MapIs R w' b k (fun u=>if u=s then none else f u):=by
 have hsz:=size_del (h1.tidy Tryz.strKeyed) (k:= .string (bl s));refine ⟨Maps.size (D.del (.string (bl s))),by omega,_,ownsMap_tight hw,rfl,fun u=>?_,fun u z=>?_⟩
 ·by_cases hu:u=s
  ·subst hu;rw [has_del_same];simp
  ·rw [has_del_other (key_ne hu),h3];simp [hu]
 ·by_cases hu:u=s
  ·subst hu;rw [atKey_del_same];simp
  ·rw [atKey_del_other (key_ne hu),h4];simp [hu]
theorem Tryz.zeroStr (w:World):(zeroValue 9).run Tryz.prog w=.ok (.string ⟨#[]⟩) w:=by kernel_rfl
theorem Tryz.zeroInt (w:World):(zeroValue 3).run Tryz.prog w=.ok (.int .i64 0) w:=by kernel_rfl
theorem Tryz.zeroBool (w:World):(zeroValue 4).run Tryz.prog w=.ok (.bool false) w:=by kernel_rfl
noncomputable abbrev RStr:Value→Option (DataW Unit×List MemPlace):=plainElem Tryz.prog 9
noncomputable abbrev RInt:Value→Option (DataW Unit×List MemPlace):=plainElem Tryz.prog 3
noncomputable abbrev RBool:Value→Option (DataW Unit×List MemPlace):=plainElem Tryz.prog 4
theorem plainElem_bool_inv {P:Program} {e:TypeId} (he:P.underlying e=some .bool) {v:Value} {z:DataW Unit×List MemPlace} (h:plainElem P e v=some z):∃x,v=.bool x∧z=(.lit (.bool x),[]):=by
 unfold plainElem at h;rw [he] at h
 cases v<;>simp at h;exact ⟨_,rfl,h.symm⟩
theorem bl_eq {a b:ByteArray} (h:bl a=bl b):a=b:=by
 obtain ⟨⟨a⟩⟩:=a;obtain ⟨⟨c⟩⟩:=b;have:a=c:=h;rw [this]
theorem look_strs {w:World} {b m:Nat} {f:ByteArray→Option ByteArray} (h:MapIs RStr w b m (fun s=>(f s).map fun x=>.lit (.string (bl x)))) (u:ByteArray) (hu:u.size≤maxLen):
  (Instr.lookup 51 (.map (some b)) (.string u) true).run Tryz.prog w=.ok (.tuple #[.string ((f u).getD ⟨#[]⟩),.bool (f u).isSome]) w:=by
 obtain ⟨D,h1,h2,h3,h4⟩:=h;dsimp only at h3 h4;obtain ⟨v,ps,hr,hv⟩:=h1.look_ok Tryz.strKeyed Tryz.underlying51 (Tryz.zeroStr w) (plainElem_string Tryz.underlying9 (s:=⟨#[]⟩) (Nat.zero_le _)) (keyLit u hu);rw [hr,h3];obtain ⟨s,rfl,hz,_⟩:=plainElem_string_inv Tryz.underlying9 hv;simp only [Prod.mk.injEq] at hz;rw [h4] at hz
 cases hf:f u with
 |none=>rw [hf] at hz;simp at hz;rw [bl_eq (a:=s) (b:=⟨#[]⟩) (by rw [show bl s=s.data.toList from rfl,←hz.1];rfl)];rfl
 |some x=>rw [hf] at hz;simp at hz;rw [bl_eq (a:=s) (b:=x) (by rw [show bl s=s.data.toList from rfl,←hz.1])];rfl
theorem look_ints {w:World} {b m:Nat} {f:ByteArray→Option Int} (h:MapIs RInt w b m (fun s=>(f s).map fun x=>.lit (.int .i64 x))) (u:ByteArray) (hu:u.size≤maxLen):
  (Instr.lookup 53 (.map (some b)) (.string u) true).run Tryz.prog w=.ok (.tuple #[.int .i64 ((f u).getD 0),.bool (f u).isSome]) w:=by
 obtain ⟨D,h1,h2,h3,h4⟩:=h;dsimp only at h3 h4;obtain ⟨v,ps,hr,hv⟩:=h1.look_ok Tryz.strKeyed Tryz.underlying53 (Tryz.zeroInt w) (plainElem_int Tryz.underlying3 (q:= .i64) (a:=0) (by decide)) (keyLit u hu);rw [hr,h3];obtain ⟨s,rfl,hz,_⟩:=plainElem_int_inv Tryz.underlying3 hv;simp only [Prod.mk.injEq] at hz;rw [h4] at hz
 cases hf:f u with
 |none=>rw [hf] at hz;simp at hz;rw [hz.1];rfl
 |some x=>rw [hf] at hz;simp at hz;rw [hz.1];rfl
theorem look_bools {w:World} {b m:Nat} {f:ByteArray→Option Bool} (h:MapIs RBool w b m (fun s=>(f s).map fun x=>.lit (.bool x))) (u:ByteArray) (hu:u.size≤maxLen):
  (Instr.lookup 52 (.map (some b)) (.string u) false).run Tryz.prog w=.ok (.bool ((f u).getD false)) w:=by
 obtain ⟨D,h1,h2,h3,h4⟩:=h;dsimp only at h3 h4;obtain ⟨v,ps,hr,hv⟩:=h1.lookup Tryz.strKeyed Tryz.underlying52 (Tryz.zeroBool w) (plainElem_bool Tryz.underlying4 false) (keyLit u hu);rw [hr];obtain ⟨s,rfl,hz⟩:=plainElem_bool_inv Tryz.underlying4 hv;simp only [Prod.mk.injEq] at hz;rw [h4] at hz
 cases hf:f u with
 |none=>rw [hf] at hz;simp at hz;rw [hz.1];rfl
 |some x=>rw [hf] at hz;simp at hz;rw [hz.1];rfl
def NetRow (o:Obj):Prop:=(∃es c,o=.map es c)∨(∃cs fz,o=.cells cs 55 fz)
def textAt (s:ByteArray) (l:List SiteB):Option ByteArray:=(siteAt s l).map (·.text)
def cutAt (s:ByteArray) (l:List SiteB):Option Int:=(siteAt s l).bind fun x=>if 0≤x.cut then some x.cut else none
structure NetAt (w:World) (B b:Nat) (n:NetB) (t bt bo bc mo mc:Nat) (fo:ByteArray→Option Bool):Prop where
 hb:B≤b
 ht:B≤bt
 ho:B≤bo
 hc:B≤bc
 d1:bt≠bo
 d2:bt≠bc
 d3:bo≠bc
 et:bt+3=b
 eo:bo+2=b
 ec:bc+1=b
 hmo:mo≤t
 hmc:mc≤t
 hcl:n.calls≤t
 blk:w.heap[b]? =some (.cells #[.map (some bt),.map (some bo),.map (some bc),.int .i64 n.calls] 55 (0,0))
 texts:MapIs RStr w bt n.sites.length (fun s=>(textAt s n.sites).map fun x=>.lit (.string (bl x)))
 offs:MapIs RBool w bo mo (fun s=>(fo s).map fun x=>.lit (.bool x))
 off:∀s,(fo s).getD false=(n.off.map bl).contains (bl s)
 cuts:MapIs RInt w bc mc (fun s=>(cutAt s n.sites).map fun x=>.lit (.int .i64 x))
def NetIs (w:World) (B b:Nat) (n:NetB) (t:Nat):Prop:=NetOk n∧∃bt bo bc mo mc fo,NetAt w B b n t bt bo bc mo mc fo
theorem NetAt.keeps {w w':World} {B b t bt bo bc mo mc:Nat} {n:NetB} {fo:ByteArray→Option Bool} (h:NetAt w B b n t bt bo bc mo mc fo) (hb:Below w.heap.size w w'):NetAt w' B b n t bt bo bc mo mc fo:=
 {h with
  blk:=by rw [hb.block b (Array.getElem?_eq_some_iff.1 h.blk).1];exact h.blk
  texts:=h.texts.keep (hb.block bt h.texts.lt)
  offs:=h.offs.keep (hb.block bo h.offs.lt)
  cuts:=h.cuts.keep (hb.block bc h.cuts.lt)}
theorem NetIs.below {w w':World} {B b t:Nat} {n:NetB} (h:NetIs w B b n t) (hb:Below w.heap.size w w'):NetIs w' B b n t:=by
 obtain ⟨h0,bt,bo,bc,mo,mc,fo,h1⟩:=h;exact ⟨h0,bt,bo,bc,mo,mc,fo,h1.keeps hb⟩
theorem NetIs.later {w:World} {B b t t':Nat} {n:NetB} (h:NetIs w B b n t) (ht:t≤t'):NetIs w B b n t':=by
 obtain ⟨h0,bt,bo,bc,mo,mc,fo,h1⟩:=h;exact ⟨h0,bt,bo,bc,mo,mc,fo,{h1 with hmo:=Nat.le_trans h1.hmo ht,hmc:=Nat.le_trans h1.hmc ht,hcl:=Nat.le_trans h1.hcl ht}⟩
theorem NetIs.keeps {K:Obj→Prop} {w w':World} {B B2 b t:Nat} {n:NetB} (h:NetIs w B b n t) (hk:Keeps K B2 w w') (h1:∀es c,¬K (.map es c)) (h2:∀cs fz,¬K (.cells cs 55 fz)):NetIs w' B b n t:=by
 obtain ⟨h0,bt,bo,bc,mo,mc,fo,h3⟩:=h;have hm:∀(R:Value→Option (DataW Unit×List MemPlace)) (c m:Nat) (f:ByteArray→Option (DataW Unit)),MapIs R w c m f→MapIs R w' c m f:=by
  intro R c m f hc;obtain ⟨es,cl,he⟩:=hc.isMap;exact hc.keep ((hk.keep c _ he (h1 es cl)).trans he.symm)
 exact ⟨h0,bt,bo,bc,mo,mc,fo,{h3 with blk:=hk.keep b _ h3.blk (h2 _ _),texts:=hm _ _ _ _ h3.texts,offs:=hm _ _ _ _ h3.offs,cuts:=hm _ _ _ _ h3.cuts}⟩
def NEnv (E:Nat→Addr) (w:World):Prop:=Env E w∧LEnv E w
theorem NEnv.ext {E:Nat→Addr} {w w':World} (h:NEnv E w) (hb:Below w.heap.size w w'):NEnv E w':=⟨h.1.ext hb,h.2.ext hb⟩
theorem netNew_any (w:World):Calls Tryz.prog 13 #[] w fun e w'=>∃b,e=.returned (.pointer (some ⟨b,0,none⟩))∧NetIs w' w.heap.size b ⟨[],[],0⟩ 0∧Below w.heap.size w w':=by
 have hmm:=@run_makeMap Tryz.prog;go_enter Tryz.func13,Tryz.ntmps13;go_wp2_with fail;go_ret;have e1:(w.alloc (.map #[] 0)).heap.size=w.heap.size+1:=by simp only [World.size_alloc]
 have e2:((w.alloc (.map #[] 0)).alloc (.map #[] 0)).heap.size=w.heap.size+1+1:=by simp only [World.size_alloc]
 have e3:(((w.alloc (.map #[] 0)).alloc (.map #[] 0)).alloc (.map #[] 0)).heap.size=w.heap.size+1+1+1:=by simp only [World.size_alloc]
 have b1:Below w.heap.size w (w.alloc (.map #[] 0)):=(Below.refl _ _).alloc (Nat.le_refl _) _;have b2:=b1.alloc (Nat.le_of_lt (by rw [e1];omega)) (.map #[] 0);have b3:=b2.alloc (Nat.le_of_lt (by rw [e2];omega)) (.map #[] 0);refine ⟨_,rfl,⟨⟨by simp,by simp,by simp⟩,w.heap.size,w.heap.size+1,w.heap.size+1+1,0,0,fun _=>none,?_⟩,b3.alloc (Nat.le_of_lt (by rw [e3];omega)) _⟩;refine {hb:=by omega,ht:=by omega,ho:=by omega,hc:=by omega,d1:=by omega,d2:=by omega,d3:=by omega,et:=by omega,eo:=by omega,ec:=by omega,hmo:=Nat.le_refl _,hmc:=Nat.le_refl _,hcl:=Nat.le_refl _,blk:=?_,texts:=?_,offs:=?_,off:=fun _=>rfl,cuts:=?_}
 ·rw [←e3];exact heap_alloc_new _ _
 ·exact (MapIs.made w).keep (by rw [Below.heap_alloc,Below.heap_alloc,Below.heap_alloc]<;>(try simp only [World.size_alloc])<;>omega)
 ·have:=MapIs.made (R:=RBool) (w.alloc (.map #[] 0));rw [e1] at this;exact this.keep (by rw [Below.heap_alloc,Below.heap_alloc]<;>(try simp only [World.size_alloc])<;>omega)
 ·have:=MapIs.made (R:=RInt) ((w.alloc (.map #[] 0)).alloc (.map #[] 0));rw [e2] at this;exact this.keep (by rw [Below.heap_alloc]<;>(try simp only [World.size_alloc])<;>omega)
theorem textAt_set (u s v:ByteArray) (l:List SiteB) (h:(siteAt u l).isSome=true):textAt v (setSite u s (-1) l)=if v=u then some s else textAt v l:=by
 unfold textAt;rw [siteAt_setSite];split
 ·obtain ⟨x,hx⟩:=Option.isSome_iff_exists.1 h;rw [hx];rfl
 ·rfl
theorem cutAt_set (u s v:ByteArray) (l:List SiteB):cutAt v (setSite u s (-1) l)=if v=u then none else cutAt v l:=by
 unfold cutAt;rw [siteAt_setSite];split
 ·cases siteAt u l<;>simp
 ·rfl
theorem textAt_app (u s v:ByteArray) (l:List SiteB) (h:siteAt u l=none):textAt v (l++[⟨u,s,-1⟩])=if v=u then some s else textAt v l:=by
 unfold textAt;rw [siteAt_app];by_cases hv:v=u
 ·subst hv;rw [h];simp
 ·rw [if_neg hv,if_neg (fun e=>hv e.symm)];simp
theorem cutAt_app (u s v:ByteArray) (l:List SiteB) (h:siteAt u l=none):cutAt v (l++[⟨u,s,-1⟩])=if v=u then none else cutAt v l:=by
 unfold cutAt;rw [siteAt_app];by_cases hv:v=u
 ·subst hv;rw [h];simp
 ·rw [if_neg hv,if_neg (fun e=>hv e.symm)];simp
theorem textAt_cut (u v:ByteArray) (k:Int) (l:List SiteB):textAt v (setCut u k l)=textAt v l:=by
 unfold textAt;rw [siteAt_setCut];split
 ·rename_i h;subst h;cases siteAt v l<;>rfl
 ·rfl
theorem cutAt_cut (u v:ByteArray) (k:Int) (hk:0≤k) (l:List SiteB) (h:(siteAt u l).isSome=true):cutAt v (setCut u k l)=if v=u then some k else cutAt v l:=by
 unfold cutAt;rw [siteAt_setCut];split
 ·obtain ⟨x,hx⟩:=Option.isSome_iff_exists.1 h;rw [hx];simp [hk]
 ·rfl
def NetPost (E:Nat→Addr) (B b t:Nat) (r:Nat×NetB) (w:World) (e:Ending) (w':World):Prop:=
 e=.returned (errV E r.1)∧NetIs w' B b r.2 (t+1)∧KeepsU 4 b NetRow B w w'
theorem NetPost.same {E:Nat→Addr} {B b t c:Nat} {n:NetB} {w w':World} {v:Value} (h:NetIs w' B b n t) (hb:Below w.heap.size w w') (hB:B≤w.heap.size) (hv:v=errV E c):NetPost E B b t (c,n) w (.returned v) w':=
 ⟨by rw [hv],h.later (Nat.le_succ _),KeepsU.of hb hB⟩
theorem mapTurned_keeps {B b c:Nat} {w w':World} (h:w.mapTurned w' c) (hB:B≤c) (hw:B≤w.heap.size) (hu:c≤b∧b<c+4):KeepsU 4 b NetRow B w w':=by
 obtain ⟨es,c,es',c',h1,h2⟩:=id h;exact KeepsU.one h.grown hB hw h1 (.inl ⟨_,_,rfl⟩) hu
theorem netAt_c2 {w w':World} {B b t bt bo bc mo mc:Nat} {n:NetB} {fo:ByteArray→Option Bool} (h:NetAt w B b n t bt bo bc mo mc fo) {c:Nat} (ht:w.mapTurned w' c):w'.cell? ⟨b,2,none⟩=some (.map (some bc)):=by
 have hk:w'.heap[b]? =w.heap[b]?:=ht.grown.block b (Array.getElem?_eq_some_iff.1 h.blk).1 (fun e=>by
  obtain ⟨es,cl,es',cl',h1,_⟩:=ht;rw [←Option.some.inj e,h.blk] at h1
  cases h1)
 rw [Lib.cell_of_heap (hk.trans h.blk)];rfl
theorem ownsMap_turned {P:Program} {k:TypeId} {R:Value→Option (DataW Unit×List MemPlace)} {w w':World} {b c n:Nat} {D:DataW Unit} (h:w.ownsMap P k R b n D) (ht:w.mapTurned w' c) (hne:b≠c):w'.ownsMap P k R b n D:=
 h.kept ht.grown (fun e=>hne (Option.some.inj e))
theorem mapIs_turned {R:Value→Option (DataW Unit×List MemPlace)} {w w':World} {b c m:Nat} {f:ByteArray→Option (DataW Unit)} (h:MapIs R w b m f) (ht:w.mapTurned w' c) (hne:b≠c):MapIs R w' b m f:=by
 obtain ⟨D,h1,h2⟩:=h;exact ⟨D,ownsMap_turned h1 ht hne,h2⟩
theorem blk_turned {w w':World} {b c:Nat} {cs:Array Value} {T:TypeId} {fz:Nat×Nat} (h:w.heap[b]? =some (.cells cs T fz)) (ht:w.mapTurned w' c):w'.heap[b]? =some (.cells cs T fz):=by
 rw [ht.grown.block b (Array.getElem?_eq_some_iff.1 h).1 (fun e=>by
  obtain ⟨es,cl,es',cl',h1,_⟩:=ht;rw [←Option.some.inj e,h] at h1
  cases h1)]
 exact h
theorem netAt_put {w1 w2 w3:World} {B b t bt bo bc mo mc k:Nat} {n n':NetB} {fo:ByteArray→Option Bool} {D D2:DataW Unit} {u s:ByteArray} {j:Nat} (h:NetAt w1 B b n t bt bo bc mo mc fo)
  (d1:w1.ownsMap Tryz.prog 9 RStr bt n.sites.length D) (d2:Maps.size D=n.sites.length) (d3:∀s,Maps.has D (.string (bl s))=((textAt s n.sites).map fun x=>DataW.lit (H:=Unit) (.string (bl x))).isSome) (d4:∀s z,D.atKey (.string (bl s)) z=((textAt s n.sites).map fun x=>DataW.lit (.string (bl x))).getD z)
  (g1:w1.ownsMap Tryz.prog 9 RInt bc mc D2) (g2:Maps.size D2=mc) (g3:∀s,Maps.has D2 (.string (bl s))=((cutAt s n.sites).map fun x=>DataW.lit (H:=Unit) (.int .i64 x)).isSome) (g4:∀s z,D2.atKey (.string (bl s)) z=((cutAt s n.sites).map fun x=>DataW.lit (.int .i64 x)).getD z)
  (o2:w2.ownsMap Tryz.prog 9 RStr bt k (D.put (.string (bl u)) (.lit (.string (bl s))))) (ht2:w1.mapTurned w2 bt) (o3:w3.ownsMap Tryz.prog 9 RInt bc j (D2.del (.string (bl u)))) (ht3:w2.mapTurned w3 bc)
  (ho:n'.off=n.off) (hc:n'.calls=n.calls) (hl:n'.sites.length=if (textAt u n.sites).isSome=true then n.sites.length else n.sites.length+1)
  (hx:∀v,textAt v n'.sites=if v=u then some s else textAt v n.sites) (hy:∀v,cutAt v n'.sites=if v=u then none else cutAt v n.sites):
  ∃bt bo bc mo mc fo,NetAt w3 B b n' (t+1) bt bo bc mo mc fo:=by
 have m2:=MapIs.put (f:=fun s=>(textAt s n.sites).map fun x=>DataW.lit (.string (bl x))) d1 d2 d3 d4 u _ o2;obtain ⟨k3,hk3,m3⟩:=MapIs.del (f:=fun s=>(cutAt s n.sites).map fun x=>DataW.lit (.int .i64 x)) g1 g2 g3 g4 u o3;refine ⟨bt,bo,bc,mo,k3,fo,{h with hmo:=Nat.le_succ_of_le h.hmo,hmc:=Nat.le_trans hk3 (Nat.le_succ_of_le h.hmc),hcl:=by rw [hc];exact Nat.le_succ_of_le h.hcl,blk:=?_,texts:=?_,offs:=?_,off:=fun s=>by rw [ho];exact h.off s,cuts:=?_}⟩
 ·rw [hc];exact blk_turned (blk_turned h.blk ht2) ht3
 ·have m2':=mapIs_turned m2 ht3 h.d2;rw [Option.isSome_map,←hl] at m2';rw [show (fun s=>(textAt s n'.sites).map fun x=>DataW.lit (H:=Unit) (.string (bl x)))=fun v=>if v=u then some (DataW.lit (.string (bl s))) else (textAt v n.sites).map fun x=>DataW.lit (.string (bl x)) by
   funext v;rw [hx];split<;>rfl]
  exact m2'
 ·exact mapIs_turned (mapIs_turned h.offs ht2 (Ne.symm h.d1)) ht3 h.d3
 ·rw [show (fun s=>(cutAt s n'.sites).map fun x=>DataW.lit (H:=Unit) (.int .i64 x))=fun v=>if v=u then none else (cutAt v n.sites).map fun x=>DataW.lit (.int .i64 x) by
   funext v;rw [hy];split<;>rfl]
  exact m3
theorem netPut_any {E:Nat→Addr} (B b t:Nat) (n:NetB) (u s:ByteArray) (w:World) (h:NetIs w B b n t) (hu:u.size≤100000) (hs:s.size≤100000000) (hBw:B≤w.heap.size) (hE:NEnv E w):
  Calls Tryz.prog 72 #[.pointer (some ⟨b,0,none⟩),.string u,.string s] w (NetPost E B b t (putN n u s) w):=by
 have C:=Lib.hid (linkCheck_any u w (by omega) hE.2);have HE:=Lib.hid hE;have HN:=Lib.hid h;clear hE h;go_enter Tryz.func72,Tryz.ntmps72;go_wp2_with fail;refine C.out.mono ?_;clear C;rintro e w1 ⟨rfl,hb⟩;obtain ⟨c,hc⟩:∃c,linkE (bl u)=c:=⟨_,rfl⟩;rw [hc];have HN1:=Lib.hid (HN.out.below hb)
 cases c with
 |succ c=>
  rw [show errV E (c+1)=sentV E c from rfl];have hr:putN n u s=(c+1,n):=by unfold putN;rw [hc,if_pos (by omega)]
  have HR:=Lib.hid hr;clear hc hr;go_wp2_with fail;go_ret;rw [HR.out];exact NetPost.same HN1.out hb hBw rfl
 |zero=>
  rw [show errV E 0=.nilIface from rfl];have HC:=Lib.hid hc;clear hc;by_cases hs2:20000<s.size
  ·have hr:putN n u s=(2,n):=by unfold putN;rw [if_neg (by rw [HC.out];simp),if_pos hs2]
   have HR:=Lib.hid hr;have e1:w1.cell? ⟨0,0,none⟩=some (sentV E 1):=(HE.out.1.ext hb).err 1 (by decide);obtain ⟨hok,bt,bo,bc,mo,mc,fo,h1⟩:=HN1.out;have c0:w1.cell? ⟨b,0,none⟩=some (.map (some bt)):=by rw [Lib.cell_of_heap h1.blk];rfl
   have hl:=look_strs h1.texts u (by unfold maxLen;omega);clear h1 hr;go_wp2_with fail;go_ret;rw [HR.out];exact NetPost.same HN1.out hb hBw rfl
  ·rcases hx:siteAt u n.sites with _|x
   ·by_cases h60:60≤n.sites.length
    ·have hr:putN n u s=(8,n):=by unfold putN;rw [if_neg (by rw [HC.out];simp),if_neg hs2,hx];simp only;rw [if_pos h60]
     have HR:=Lib.hid hr;have e1:w1.cell? ⟨7,0,none⟩=some (sentV E 7):=(HE.out.1.ext hb).err 7 (by decide);obtain ⟨hok,bt,bo,bc,mo,mc,fo,h1⟩:=HN1.out;have c0:w1.cell? ⟨b,0,none⟩=some (.map (some bt)):=by rw [Lib.cell_of_heap h1.blk];rfl
     have hl:=look_strs h1.texts u (by unfold maxLen;omega);obtain ⟨D,d1,d2,d3,d4⟩:=h1.texts;have hn:=fun ty=>d1.len Tryz.underlying51 ty
     rw [d2] at hn;rw [show textAt u n.sites=none by unfold textAt;rw [hx];rfl] at hl;simp only [Option.getD_none,Option.isSome_none] at hl;clear h1 hr d1 d2 d3 d4 hok hx;go_wp2_with fail;go_ret;rw [HR.out];exact NetPost.same HN1.out hb hBw rfl
    ·have hr:putN n u s=(0,{n with sites:=n.sites++[⟨u,s,-1⟩]}):=by unfold putN;rw [if_neg (by rw [HC.out];simp),if_neg hs2,hx];simp only;rw [if_neg h60]
     have HR:=Lib.hid hr;have hrok:=putN_ok (u:=u) (s:=s) HN1.out.1 hu;rw [hr] at hrok;obtain ⟨hok,bt,bo,bc,mo,mc,fo,h1⟩:=HN1.out;have c0:w1.cell? ⟨b,0,none⟩=some (.map (some bt)):=by rw [Lib.cell_of_heap h1.blk];rfl
     have hl:=look_strs h1.texts u (by unfold maxLen;omega);obtain ⟨D,d1,d2,d3,d4⟩:=id h1.texts;obtain ⟨D2,g1,g2,g3,g4⟩:=id h1.cuts;have hn:=fun ty=>d1.len Tryz.underlying51 ty
     rw [d2] at hn;rw [show textAt u n.sites=none by unfold textAt;rw [hx];rfl] at hl;simp only [Option.getD_none,Option.isSome_none] at hl;have H1:=Lib.hid h1;have Hd:=Lib.hid d1;have hlt:n.sites.length<maxLen:=by have:=hok.few;unfold maxLen;omega
     have Hrok:=Lib.hid hrok;have Hde:=Lib.hid (And.intro d2 (And.intro d3 d4));have Hge:=Lib.hid (And.intro g1 (And.intro g2 (And.intro g3 g4)));have hkl:=keyLit u (by unfold maxLen;omega);have Hx:=Lib.hid hx;clear h1 hr d1 d2 d3 d4 g1 g2 g3 g4 hok hrok hx;go_wp2_with (first
      |(at_mapUpdate;refine wpList_mapUpdate_in _ rfl _ _ _ 51 rfl 9 9 Tryz.strKeyed Tryz.underlying51 RStr bt n.sites.length D rfl Hd.out hlt _ _ _ rfl rfl hkl (.lit (.string (bl s))) [] (plainElem_string Tryz.underlying9 (by unfold maxLen;omega)) ?_;intro w2 hown2 hturn2;have Ho2:=Lib.hid hown2;have c2:=netAt_c2 H1.out hturn2;have Hg:=Lib.hid (ownsMap_turned Hge.out.1 hturn2 H1.out.d2.symm);clear hown2)
      |(at_delete;refine wpList_delete_own _ rfl _ _ 53 9 rfl 3 Tryz.strKeyed Tryz.underlying53 RInt bc mc D2 rfl Hg.out _ _ rfl hkl ?_;intro w3 hown3 hturn3)
      |go_in)
     go_ret;refine ⟨by rw [HR.out];rfl,?_,(KeepsU.of hb hBw).trans ((mapTurned_keeps hturn2 H1.out.ht (Nat.le_trans hBw hb.size) (by have:=H1.out.et;omega)).trans (mapTurned_keeps hturn3 H1.out.hc (Nat.le_trans hBw (Nat.le_trans hb.size hturn2.grown.size)) (by have:=H1.out.ec;omega)))⟩;rw [HR.out];exact ⟨Hrok.out,netAt_put H1.out Hd.out Hde.out.1 Hde.out.2.1 Hde.out.2.2 Hge.out.1 Hge.out.2.1 Hge.out.2.2.1 Hge.out.2.2.2 Ho2.out hturn2 hown3 hturn3 rfl rfl (by show (n.sites++[_]).length=_;rw [show textAt u n.sites=none by unfold textAt;rw [Hx.out];rfl];simp) (fun v=>textAt_app u s v n.sites Hx.out) (fun v=>cutAt_app u s v n.sites Hx.out)⟩
   ·have hr:putN n u s=(0,{n with sites:=setSite u s (-1) n.sites}):=by unfold putN;rw [if_neg (by rw [HC.out];simp),if_neg hs2,hx]
    have HR:=Lib.hid hr;have hrok:=putN_ok (u:=u) (s:=s) HN1.out.1 hu;rw [hr] at hrok;obtain ⟨hok,bt,bo,bc,mo,mc,fo,h1⟩:=HN1.out;have c0:w1.cell? ⟨b,0,none⟩=some (.map (some bt)):=by rw [Lib.cell_of_heap h1.blk];rfl
    have hl:=look_strs h1.texts u (by unfold maxLen;omega);obtain ⟨D,d1,d2,d3,d4⟩:=id h1.texts;obtain ⟨D2,g1,g2,g3,g4⟩:=id h1.cuts;have hn:=fun ty=>d1.len Tryz.underlying51 ty
    rw [d2] at hn;rw [show textAt u n.sites=some x.text by unfold textAt;rw [hx];rfl] at hl;simp only [Option.getD_some,Option.isSome_some] at hl;have H1:=Lib.hid h1;have Hd:=Lib.hid d1;have hlt:n.sites.length<maxLen:=by have:=hok.few;unfold maxLen;omega
    have Hrok:=Lib.hid hrok;have Hde:=Lib.hid (And.intro d2 (And.intro d3 d4));have Hge:=Lib.hid (And.intro g1 (And.intro g2 (And.intro g3 g4)));have hkl:=keyLit u (by unfold maxLen;omega);have Hx:=Lib.hid hx;clear h1 hr d1 d2 d3 d4 g1 g2 g3 g4 hok hrok hx;go_wp2_with (first
     |(at_mapUpdate;refine wpList_mapUpdate_in _ rfl _ _ _ 51 rfl 9 9 Tryz.strKeyed Tryz.underlying51 RStr bt n.sites.length D rfl Hd.out hlt _ _ _ rfl rfl hkl (.lit (.string (bl s))) [] (plainElem_string Tryz.underlying9 (by unfold maxLen;omega)) ?_;intro w2 hown2 hturn2;have Ho2:=Lib.hid hown2;have c2:=netAt_c2 H1.out hturn2;have Hg:=Lib.hid (ownsMap_turned Hge.out.1 hturn2 H1.out.d2.symm);clear hown2)
     |(at_delete;refine wpList_delete_own _ rfl _ _ 53 9 rfl 3 Tryz.strKeyed Tryz.underlying53 RInt bc mc D2 rfl Hg.out _ _ rfl hkl ?_;intro w3 hown3 hturn3)
     |go_in)
    go_ret;refine ⟨by rw [HR.out];rfl,?_,(KeepsU.of hb hBw).trans ((mapTurned_keeps hturn2 H1.out.ht (Nat.le_trans hBw hb.size) (by have:=H1.out.et;omega)).trans (mapTurned_keeps hturn3 H1.out.hc (Nat.le_trans hBw (Nat.le_trans hb.size hturn2.grown.size)) (by have:=H1.out.ec;omega)))⟩;rw [HR.out];exact ⟨Hrok.out,netAt_put H1.out Hd.out Hde.out.1 Hde.out.2.1 Hde.out.2.2 Hge.out.1 Hge.out.2.1 Hge.out.2.2.1 Hge.out.2.2.2 Ho2.out hturn2 hown3 hturn3 rfl rfl (by show (setSite u s (-1) n.sites).length=_;rw [show textAt u n.sites=some x.text by unfold textAt;rw [Hx.out];rfl];have:=congrArg List.length (setSite_map u s (-1) n.sites);simpa using this) (fun v=>textAt_set u s v n.sites (by rw [Hx.out];rfl)) (fun v=>cutAt_set u s v n.sites)⟩
end Go.Proofs.YtaabgmbjmfjdjaaGreatDoor
