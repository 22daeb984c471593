import Derived.Test.YtaabgmbjmfjdjaaGreatDoorJRefTreeEtc
import Derived.Shelf.SlMaps.Clone
import Derived.Test.YtaabgmbjmfjdjaaGreatDoorJMirrorWays
import Derived.Test.YtaabgmbjmfjdjaaGreatDoorJTreeDropsEtc
import Derived.Laws.NewBlocks
import Derived.Lib.SliceRun
import Derived.Test.YtaabgmbjmfjdjaaGreatDoorJRefWaysEtc
import Derived.Test.YtaabgmbjmfjdjaaGreatDoorJRefTreeUpEtc
import Derived.Deep.RegionHeld3
import Derived.Test.YtaabgmbjmfjdjaaGreatDoorJRowedEtc
import Derived.Laws.OwnMore
import Derived.Test.YtaabgmbjmfjdjaaGreatDoorJTapeReadEtc
import Derived.Test.YtaabgmbjmfjdjaaGreatDoorJLinkLenEtc
namespace Go.Proofs.YtaabgmbjmfjdjaaGreatDoor
open Go Go.RowKit Go.Maps
set_option maxHeartbeats 4000000
set_option maxRecDepth 100000
theorem mapsClone_any (b:Nat) (es:Array MapEntry) (clock:Nat) (w:World) (hb:w.heap[b]? =some (.map es clock)):
  Calls Tryz.prog 166 #[.map (some b)] w fun e w'=>e=.returned (.map (some w.heap.size))∧w'=w.alloc (.map es clock):=by
 have hq:=fun w=>run_eql_map_nil_sl (P:=Tryz.prog) w 107 _ _ (some b) Tryz.underlying107
 go_enter Tryz.func166,Tryz.ntmps166
 go_wp2
 rw [run_callFunc_extern Tryz.func209 (by kernel_rfl) (by kernel_rfl) (by kernel_rfl) (e:=Extern.MapsClone.clone) (by kernel_rfl),run_maps_clone_sl w 107 hb];simp only [Result.andThen];rw [Oper.upon_value]
 go_wp2
 rw [run_typeAssert_map_sl _ 107 _ _ _ _ Tryz.underlying107];simp only [Result.andThen];rw [Oper.upon_value]
 go_wp2
 go_ret;exact ⟨rfl,rfl⟩
theorem MapI.copy {w w':World} {b b' m:Nat} {f:Int→Option Value} {es:Array MapEntry} {c:Nat} (h:MapI w b m f) (he:w.heap[b]? =some (.map es c)) (hb:w'.heap[b']? =some (.map es c)):MapI w' b' m f:=by
 obtain ⟨D,⟨es',clock,h1,F,hs,hD⟩,h2⟩:=h;rw [he] at h1;simp only [Option.some.injEq,Obj.map.injEq] at h1;obtain ⟨rfl,rfl⟩:=h1;exact ⟨D,⟨es,c,hb,F,hs,hD⟩,h2⟩
def HCopyPost (B:Nat) (h:HeldB) (w:World) (e:Ending) (w':World):Prop:=(∃b,e=.returned (.pointer (some ⟨b,0,none⟩))∧Hid (HeldIs w' B b h)∧w.heap.size+1≤b)∧Below w.heap.size w w'
theorem heldCopy_any (B b:Nat) (h:HeldB) (w:World) (hi:HeldIs w B b h) (hB:B≤w.heap.size):
  Calls Tryz.prog 123 #[.pointer (some ⟨b,0,none⟩)] w (HCopyPost B h w):=by
 obtain ⟨h0,ov,mb,f,hA⟩:=hi;obtain ⟨es,c,he⟩:=hA.map.isMap;obtain ⟨c0,c1,c2,_⟩:=held_ready hA.blk;obtain ⟨ao,cap,rfl⟩:=IOwn.shape hA.order;have a0:w.drew.cell? ⟨b,0,none⟩=some (.int .i64 h.most):=c0;have a1:w.drew.cell? ⟨b,1,none⟩=some (.slice ao h.sums.length cap):=c1;have a2:w.drew.cell? ⟨b,2,none⟩=some (.map (some mb)):=c2;have hl:h.sums.length≤100000:=by have:=h0.len;have:=h0.few;rw [sums_len];omega
 have HC1:=Lib.hid (cloneInts_any (.slice ao h.sums.length cap) h.sums w.drew hl (hA.order.ext (below_drewN _ _ 1)).row);have HA:=Lib.hid hA;have H0:=Lib.hid h0;have HE:=Lib.hid he;have hbl:b<w.heap.size:=(Array.getElem?_eq_some_iff.1 hA.blk).1;have hml:mb<w.heap.size:=hA.map.lt;clear hA hl h0 he c0 c1 c2;go_enter Tryz.func123,Tryz.ntmps123;go_wp2_with fail;go_region_held3 (fun W:World=>W.cell? ⟨b,0,none⟩=some (.int .i64 h.most)∧W.cell? ⟨b,1,none⟩=some (.slice ao h.sums.length cap)∧W.cell? ⟨b,2,none⟩=some (.map (some mb))) (first|exact ⟨Lib.cell?_alloc_some _ e0,Lib.cell?_alloc_some _ e1,Lib.cell?_alloc_some _ e2⟩|exact ⟨e0,e1,e2⟩|exact ⟨d0,d1,d2⟩|exact ⟨a0,a1,a2⟩)
  (first
   |(go_at_call 125;refine HC1.out.mono ?_;rintro e w1 ⟨⟨ov,rfl,HO⟩,hb1⟩;obtain ⟨oo,oc,rfl⟩:=IOwn.shape HO.out;have d0:=(hb1.cell (p:=⟨b,0,none⟩) hbl).trans a0;have d1:=(hb1.cell (p:=⟨b,1,none⟩) hbl).trans a1;have d2:=(hb1.cell (p:=⟨b,2,none⟩) hbl).trans a2;have hm1:w1.heap[mb]? =some (.map es c):=(hb1.block mb hml).trans HE.out)
   |(go_at_call 166;refine (mapsClone_any mb es c w1 hm1).mono ?_;rintro e w2 ⟨rfl,hw2⟩;have hb2:Below w1.heap.size w1 w2:=(by rw [hw2];exact (Below.refl _ _).alloc (Nat.le_refl _) _);have hn2:w2.heap[w1.heap.size]? =some (.map es c):=(by rw [hw2];exact heap_alloc_new _ _);have hz2:w1.heap.size+1=w2.heap.size:=(by rw [hw2];simp);have e0:=(hb2.cell (p:=⟨b,0,none⟩) (Nat.lt_of_lt_of_le hbl hb1.size)).trans d0;have e1:=(hb2.cell (p:=⟨b,1,none⟩) (Nat.lt_of_lt_of_le hbl hb1.size)).trans d1;have e2:=(hb2.cell (p:=⟨b,2,none⟩) (Nat.lt_of_lt_of_le hbl hb1.size)).trans d2;clear hw2))
 have hbw1:Below w.heap.size w w1:=(below_drewN _ _ 1).trans hb1;have hbw2:Below w.heap.size w w2:=hbw1.trans (hb2.mono hbw1.size);have hal:Below w2.heap.size w2 (w2.alloc (.cells #[.int .i64 h.most,.slice oo h.sums.length oc,.map (some w1.heap.size)] 110)):=(Below.refl _ _).alloc (Nat.le_refl _) _;have hbw3:=hbw2.trans (hal.mono hbw2.size);have HF:Hid (HeldIs (w2.alloc (.cells #[.int .i64 h.most,.slice oo h.sums.length oc,.map (some w1.heap.size)] 110)) B w2.heap.size h):=by
  refine ⟨H0.out,.slice oo h.sums.length oc,w1.heap.size,f,?_⟩;refine {hb:=Nat.le_trans hB hbw2.size,hm:=Nat.le_trans hB hbw1.size,hlt:=hz2,blk:=heap_alloc_new _ _,order:=?_,map:=?_,vals:=fun n=>(HA.out.vals n).keeps (K:=fun _=>False) (Keeps.of hbw3 (Nat.le_refl _)) (fun _ h=>h)}
  ·exact IOwn.low (IOwn.ext (IOwn.ext HO.out hb2) hal) hB
  ·exact HA.out.map.copy HE.out ((hal.block _ (by have:=(Array.getElem?_eq_some_iff.1 hn2).1;exact this)).trans hn2)
 have hle:w.heap.size+1≤w2.heap.size:=by have:=hbw1.size;omega
 clear HO hb1 hb2 hn2 hm1 d0 d1 d2 e0 e1 e2 HC1 a0 a1 a2;go_wp2_with fail;go_ret;exact ⟨⟨_,rfl,HF,hle⟩,hbw3⟩
def RulesOwn (w:World) (base:Nat) (v:Value) (l:List RuleB):Prop:=
 ∃tvs:List Value,tvs.length=l.length∧w.ownsRow base 63 2 v l.length ((l.zip tvs).flatMap fun p=>[Value.string p.1.1,p.2])∧
  ∀j,(hj:j<l.length)→∃tv,tvs[j]? =some tv∧w.ownsRow base 9 1 tv l[j].2.length (l[j].2.map Value.string)
theorem Tryz.infoR:(Tryz.prog.info? 63).map (fun i=>(i.zero,i.size,i.bytes))=some (some (.agg #[.string ⟨#[]⟩,.slice none 0 0]),2,40):=by kernel_rfl
theorem RulesOwn.row {w:World} {base:Nat} {v:Value} {l:List RuleB} (h:RulesOwn w base v l):RulesRow w v l:=by
 obtain ⟨tvs,hl,ho,hr⟩:=h;rcases id ho.2 with ⟨rfl,h0⟩|⟨g,cap,cur,rfl,hb,hg,hn,hc,hsz,ht⟩
 ·refine ⟨none,0,by rw [h0],by omega,Nat.zero_le _,fun i hi=>by omega⟩
 ·refine ⟨some ⟨g,0,none⟩,cap,rfl,hn,hc,fun i hi=>⟨g,0,rfl,(Array.getElem?_eq_some_iff.1 hg).1,fun j hj=>?_⟩⟩;obtain ⟨tv,htv,hrow⟩:=hr j hj;have hz:(l.zip tvs)[j]? =some (l[j],tv):=by rw [List.getElem?_zip_eq_some];exact ⟨List.getElem?_eq_getElem hj,htv⟩
  have hzl:j<(l.zip tvs).length:=(List.getElem?_eq_some_iff.1 hz).1;have hz2:(l.zip tvs)[j]=(l[j],tv):=(List.getElem?_eq_some_iff.1 hz).2;have e0:=flatMap_at (fun p:RuleB×Value=>[Value.string p.1.1,p.2]) 2 (fun _=>rfl) (l.zip tvs) j 0 hzl (by decide);have e1:=flatMap_at (fun p:RuleB×Value=>[Value.string p.1.1,p.2]) 2 (fun _=>rfl) (l.zip tvs) j 1 hzl (by decide);rw [hz2] at e0 e1;have c0:=ho.cells (g:=g) rfl (j*2+0) (.string l[j].1) e0;have c1:=ho.cells (g:=g) rfl (j*2+1) tv e1;rw [Addr.add_lit] at c0 c1;refine ⟨by simpa using c0,tv,by simpa [Nat.add_assoc] using c1,RowP.of_row (row_of_own hrow)⟩
theorem grownBy_set (W:World) (b o:Nat) (v:Value):W.grownBy (W.setCell ⟨b,o,none⟩ v) (some b):=
 ⟨rfl,rfl,rfl,by simp,fun k _ hk=>Below.heap_setCell _ _ _ k (fun e=>hk (by rw [e]))⟩
theorem row_shape {w:World} {base:Nat} {e:TypeId} {size:Nat} {v:Value} {n:Nat} {xs:List Value} (h:w.ownsRow base e size v n xs):∃a cap,v=.slice a n cap:=by
 obtain ⟨h1,⟨rfl,rfl⟩|⟨g,cap,cur,h3,_⟩⟩:=h
 ·exact ⟨_,_,rfl⟩
 ·exact ⟨_,_,h3⟩
theorem RulesOwn.ext {w w':World} {base:Nat} {v:Value} {l:List RuleB} (h:RulesOwn w base v l) (hb:Below w.heap.size w w'):RulesOwn w' base v l:=by
 obtain ⟨tvs,hl,ho,hr⟩:=h;refine ⟨tvs,hl,owns_below ho hb,fun j hj=>?_⟩;obtain ⟨tv,htv,hrow⟩:=hr j hj;exact ⟨tv,htv,owns_below hrow hb⟩
theorem RulesOwn.nil (w:World) (base:Nat):RulesOwn w base (.slice none 0 0) []:=⟨[],rfl,World.ownsRow_nil _ _ _ _,fun _ hj=>absurd hj (Nat.not_lt_zero _)⟩
theorem own_apart {w:World} {base base':Nat} {e e':TypeId} {size size' n n':Nat} {v v':Value} {xs xs':List Value} (h:w.ownsRow base e size v n xs) (h':w.ownsRow base' e' size' v' n' xs') (hne:e≠e'):
  v.ownBlock=none∨v.ownBlock≠v'.ownBlock:=by
 rcases h.2 with ⟨rfl,_⟩|⟨g,cap,cur,rfl,_,hg,_⟩
 ·exact .inl rfl
 ·refine .inr fun e1=>?_
  rcases h'.2 with ⟨rfl,_⟩|⟨g',cap',cur',rfl,_,hg',_⟩
  ·simp [Value.ownBlock] at e1
  ·obtain rfl:g=g':=by simpa [Value.ownBlock] using e1
   rw [hg] at hg';injection hg' with h1
   injection h1 with _ h2
   exact hne h2
theorem own_not {w:World} {base:Nat} {e t:TypeId} {size n X:Nat} {v:Value} {xs:List Value} {c:Array Value} {fr:Nat×Nat} (h:w.ownsRow base e size v n xs) (hX:w.heap[X]? =some (.cells c t fr)) (hne:e≠t):
  v.ownBlock=none∨v.ownBlock≠some X:=by
 rcases h.2 with ⟨rfl,_⟩|⟨g,cap,cur,rfl,_,hg,_⟩
 ·exact .inl rfl
 ·refine .inr fun e1=>?_
  obtain rfl:g=X:=by simpa [Value.ownBlock] using e1
  rw [hg] at hX;injection hX with h1
  injection h1 with _ h2
  exact hne h2
theorem RulesOwn.snoc {w w':World} {base:Nat} {o o' tv:Value} {l:List RuleB} {r:RuleB} {tvs:List Value} (h1:tvs.length=l.length)
  (h2:w.ownsRow base 63 2 o l.length ((l.zip tvs).flatMap fun p=>[Value.string p.1.1,p.2]))
  (h3:∀j,(hj:j<l.length)→∃tv,tvs[j]? =some tv∧w.ownsRow base 9 1 tv l[j].2.length (l[j].2.map Value.string))
  (hr:w.ownsRow base 9 1 tv r.2.length (r.2.map Value.string))
  (ho:w'.ownsRow base 63 2 o' (l.length+1) (((l.zip tvs).flatMap fun p=>[Value.string p.1.1,p.2])++[.string r.1,tv])) (hg:w.grownBy w' o.ownBlock):RulesOwn w' base o' (l++[r]):=by
 refine ⟨tvs++[tv],by simp [h1],?_,fun j hj=>?_⟩
 ·rw [List.zip_append h1.symm,List.flatMap_append,List.length_append];simpa using ho
 ·by_cases hlt:j<l.length
  ·obtain ⟨tvj,e1,e2⟩:=h3 j hlt;refine ⟨tvj,by rw [List.getElem?_append_left (by omega)];exact e1,?_⟩;rw [List.getElem_append_left hlt];exact e2.kept hg (own_apart e2 h2 (by decide))
  ·obtain rfl:j=l.length:=by simp at hj;omega
   refine ⟨tv,by rw [←h1];simp,?_⟩;rw [List.getElem_append_right (Nat.le_refl _)];simp only [Nat.sub_self,List.getElem_cons_zero];exact hr.kept hg (own_apart hr h2 (by decide))
theorem own_mono {w:World} {base base':Nat} {e:TypeId} {size:Nat} {v:Value} {n:Nat} {xs:List Value} (h:w.ownsRow base e size v n xs) (hb:base'≤base):w.ownsRow base' e size v n xs:=by
 obtain ⟨h1,h2|⟨g,cap,cur,h3,h4,h5⟩⟩:=h
 ·exact ⟨h1,.inl h2⟩
 ·exact ⟨h1,.inr ⟨g,cap,cur,h3,Nat.le_trans hb h4,h5⟩⟩
abbrev flatR (l:List RuleB) (tvs:List Value):List Value:=(l.zip tvs).flatMap fun p=>[Value.string p.1.1,p.2]
section
open Go.Lib
theorem cloneWants_any (v:Value) (l:List WantB) (w:World) (hl:l.length≤10000) (hv:WArg w v l):
  Calls Tryz.prog 128 #[v] w fun e w'=>(∃ov,e=.returned ov∧Hid (WOwn w' w.heap.size ov l))∧Below w.heap.size w w':=by
 obtain ⟨i0,hi0,hz0,hz1,hz2⟩:=info_parts Tryz.infoWant;obtain ⟨⟨ao,cap,rfl,h1,h2,H3⟩,hnil⟩:=hv;have HM:=Lib.hid H3;have hq:∀(W:World) (a:Option Addr) (n c:Nat),(binOp .eql 83 (.slice a n c) (.slice none 0 0)).run Tryz.prog W=.ok (.bool a.isNone) W:=fun W a n c=>Go.Lib.run_eql_slice_nil W _ _ a n c 0 0 Tryz.underlying83
 clear H3
 cases ao with
 |none=>
  obtain ⟨h0,rfl⟩:=hnil _ _ rfl;have hl0:l=[]:=List.eq_nil_of_length_eq_zero h0;subst hl0;clear HM hnil;simp only [List.length_nil];go_enter Tryz.func128,Tryz.ntmps128;go_wp2_with fail;go_ret;exact ⟨⟨_,rfl,WOwn.nil _ _⟩,Below.refl _ _⟩
 |some ad=>
  clear hnil;go_enter Tryz.func128,Tryz.ntmps128;go_wp2_with (at_builtin;refine wpList_append_own _ rfl _ _ 83 rfl w.heap.size 134 i0 (.agg #[.string ⟨#[]⟩,.string ⟨#[]⟩,.string ⟨#[]⟩,.int .i64 0,.int .i64 0]) 5 64 Tryz.underlying83 hi0 hz0 hz1 hz2 rfl (by decide) _ 0 _ rfl (World.ownsRow_made w #[] 0 (Nat.le_refl _) (Nat.zero_le _) rfl) ad l.length cap (l.flatMap encW) rfl (flatMap_len _ 5 (fun _=>rfl) l) ?c1 ?c2 ?c3 ?c4 ?c5 ?_)
  case c1=>
   intro j u hj;have hjl:j<(l.flatMap encW).length:=(List.getElem?_eq_some_iff.1 hj).1;rw [flatMap_len encW 5 (fun _=>rfl)] at hjl;have hi:j/5<l.length:=by omega
   obtain ⟨b,off,he,hbl,hcell⟩:=HM.out (j/5) hi;injection he with he
   subst he;obtain ⟨q0,q1,q2,q3,q4⟩:=hcell (j/5) hi;rw [show j=j/5*5+j%5 by omega,flatMap_at encW 5 (fun _=>rfl) l (j/5) (j%5) hi (by omega)] at hj;have hm:j%5=0∨j%5=1∨j%5=2∨j%5=3∨j%5=4:=by omega
   rw [Addr.add_lit];refine cell?_alloc_some _ ?_;rcases hm with hm|hm|hm|hm|hm
   ·rw [hm] at hj;have:u=.string l[j/5].name:=by simpa using hj.symm
    rw [this,←q0];congr 2;omega
   ·rw [hm] at hj;have:u=.string l[j/5].url:=by simpa using hj.symm
    rw [this,←q1];congr 2;omega
   ·rw [hm] at hj;have:u=.string l[j/5].kind:=by simpa using hj.symm
    rw [this,←q2];congr 2;omega
   ·rw [hm] at hj;have:u=.int .i64 l[j/5].strip:=by simpa using hj.symm
    rw [this,←q3];congr 2;omega
   ·rw [hm] at hj;have:u=.int .i64 l[j/5].sum:=by simpa using hj.symm
    rw [this,←q4];congr 2;omega
  case c2=>
   intro u hu;obtain ⟨f,_,hf⟩:=List.mem_flatMap.1 hu;simp at hf;rcases hf with rfl|rfl|rfl|rfl|rfl<;>rfl
  case c3=>rw [maxLen_eq];omega
  case c4=>omega
  case c5=>simp
  intro v' w' hown hgrow _;have hb:Below w.heap.size w w':=((Below.refl _ w).alloc (Nat.le_refl _) _).grown hgrow (by simp) (by intro k hk;simp [Value.ownBlock] at hk;omega);have H:Hid (WOwn w' w.heap.size v' l):=by
   show w'.ownsRow _ _ _ _ _ _;simpa using hown
  clear hown hgrow HM;go_wp2_with fail;go_ret;exact ⟨⟨_,rfl,H⟩,hb⟩
end
def WaysIn (w:World) (c off:Nat) (xs:List ByteArray):Prop:=(∃cs,w.heap[c]? =some (.cells cs 9 (0,0)))∧WaysAt w c off xs
theorem WaysIn.same {w w':World} {c off:Nat} {xs:List ByteArray} (h:WaysIn w c off xs) (hb:w'.heap[c]? =w.heap[c]?):WaysIn w' c off xs:=by
 obtain ⟨⟨cs,h1⟩,h2⟩:=h;exact ⟨⟨cs,hb.trans h1⟩,fun i hi=>(World.cell?_of_block (w:=w) (a:=⟨c,off+i,none⟩) hb).trans (h2 i hi)⟩
theorem WaysIn.keeps {K:Obj→Prop} {B:Nat} {w w':World} {c off:Nat} {xs:List ByteArray} (h:WaysIn w c off xs) (hk:Keeps K B w w') (h1:∀cs,¬K (.cells cs 9 (0,0))):WaysIn w' c off xs:=by
 obtain ⟨cs,h2⟩:=h.1;exact h.same ((hk.keep c _ h2 (h1 _)).trans h2.symm)
theorem WBox.under {w w':World} {D p:Nat} {x:WantB} (h:WBox w p x) (hb:Below D w w') (hp:p<D):WBox w' p x:=(hb.block p hp).trans h
def FetchFrame (nb hb Bn Bh:Nat) (w w':World):Prop:=∃w5,KeepsU 4 nb NetRow Bn w w5∧KeepsU 2 hb HeldRow Bh w5 w'
theorem FetchFrame.below {nb hb Bn Bh:Nat} {w w':World} (h:FetchFrame nb hb Bn Bh w w') (hB:Bn≤Bh):Below Bn w w':=by
 obtain ⟨w5,h1,h2⟩:=h;exact h1.below.trans (h2.below.mono hB)
def FetchPost (E:Nat→Addr) (Bn nb Bh hb t:Nat) (r:Er×List FileB×List (List UInt8)×HeldB×NetB) (w:World) (e:Ending) (w':World):Prop:=
 ∃fv lv ev zs,e=.returned (.tuple #[fv,lv,ev])∧Hid (IsErr E w' ev r.1)∧Hid (FOwn w' w.heap.size fv r.2.1)∧Hid (TOwn w' w.heap.size lv zs)∧Hid (zs.map bl=r.2.2.1∧zs.length≤20)∧Hid (HeldIs w' Bh hb r.2.2.2.1)∧Hid (NetIs w' Bn nb r.2.2.2.2 (t+20))∧Hid (FetchFrame nb hb Bn Bh w w')
theorem fetch_any {E:Nat→Addr} (Bn nb Bh hb t:Nat) (n:NetB) (hd:HeldB) (v:Value) (l:List RuleB) (x:WantB) (w:World) (h:NetIs w Bn nb n t) (hh:HeldIs w Bh hb hd) (hap:nb+2≤hb) (hBB:Bn≤Bh) (ht:t+20<1000000000) (hl:l.length≤1000) (hs:∀r∈l,Small r) (hx:AskW x) (hv:RulesRow w v l) (hBw:Bh≤w.heap.size) (hEB:∀W,Below Bn w W→FtEnv E W) (hG:∀k,k<13→gE k<Bn):
  Calls Tryz.prog 122 #[.pointer (some ⟨hb,0,none⟩),.pointer (some ⟨nb,0,none⟩),v,.agg #[.string x.name,.string x.url,.string x.kind,.int .i64 x.strip,.int .i64 x.sum]] w (FetchPost E Bn nb Bh hb t (fetchF hd n (l.map ruleOf) x) w):=by
 have hBn:Bn≤w.heap.size:=Nat.le_trans hBB hBw;obtain ⟨px,hpx⟩:∃px,w.heap.size=px:=⟨_,rfl⟩;obtain ⟨wx,hwx⟩:∃wx,w.alloc (.cells #[.string x.name,.string x.url,.string x.kind,.int .i64 x.strip,.int .i64 x.sum] 134)=wx:=⟨_,rfl⟩;have hbx:Below w.heap.size w wx:=by rw [←hwx];exact (Below.refl _ _).alloc (Nat.le_refl _) _
 have BX:=Lib.hid (show WBox wx px x by rw [←hwx,←hpx];exact WBox.new w x);have HB:=Lib.hid hbx;have HEB:=Lib.hid hEB;have HWX:=Lib.hid hwx;have HPX:=Lib.hid hpx;have HX:=Lib.hid hx;have HG:=Lib.hid hG;have HS:=Lib.hid hs;have HV0:=Lib.hid (hv.ext hbx);have HN0:=Lib.hid (h.below hbx);have HH0:=Lib.hid (hh.below hbx);have C:=Lib.hid (fetchRight_any v l x wx hl hs hx (hv.ext hbx) (hEB wx (hbx.mono hBn)));obtain ⟨c0,c1,c2,c3,c4⟩:=BX.out.cells;clear hpx hwx hbx hEB hx hv h hh hG hs;go_enter Tryz.func122,Tryz.ntmps122;go_upto_region 1 with fail
 rw [HWX.out,HPX.out];go_wp2_with fail;refine C.out.mono ?_;clear C c0 c1 c2 c3 c4;intro e w1 hpost;unfold AskPost at hpost;obtain ⟨⟨ev,rfl,HV⟩,hb1⟩:=hpost;have B1:=Lib.hid (HB.out.trans (hb1.mono HB.out.size));have HN1:=Lib.hid (HN0.out.below hb1);have HH1:=Lib.hid (HH0.out.below hb1);have HV1:=Lib.hid (HV0.out.ext hb1);have BX1:=Lib.hid (BX.out.ext hb1);clear HN0 HH0 HV0 BX;by_cases h0:(askE (l.map ruleOf) x).code=0;rotate_left
 ·have HA:=Lib.hid (fetchF_ask (h:=hd) (n:=n) h0);obtain ⟨ty,y,rfl⟩:=HV.out.some_inv h0;have HN2:=Lib.hid (HN1.out.later (Nat.le_add_right t 20));clear h0;go_wp2_with fail;go_ret3;rw [HA.out];exact ⟨_,_,_,[],rfl,HV,FOwn.nil _ _,TOwn.nil _ _,⟨rfl,Nat.zero_le _⟩,HH1,HN2,⟨w1,KeepsU.of B1.out hBn,KeepsU.refl _ _ _ _ _⟩⟩
 obtain rfl:ev=.nilIface:=HV.out.zero h0;have hok:=askE_want h0;have hsum:=hok.sum;have HOK:=Lib.hid hok;have HAK:=Lib.hid h0;obtain ⟨c0,c1,c2,c3,c4⟩:=BX1.out.cells;have C:=Lib.hid (heldGet_any Bh hb hd x.sum (by unfold I64;omega) w1 HH1.out (HEB.out w1 (B1.out.mono hBn)).env);clear hb1 h0 hok HV;go_wp2_with fail;refine C.out.mono ?_;clear C;intro e w2 hpost;unfold HGetPost at hpost;obtain ⟨hpost,hb2⟩:=hpost;have B2:=Lib.hid (B1.out.trans (hb2.mono B1.out.size));have HN2:=Lib.hid (HN1.out.below hb2);have HH2:=Lib.hid (HH1.out.below hb2);have HV2:=Lib.hid (HV1.out.ext hb2);have BX2:=Lib.hid (BX1.out.ext hb2);clear HN1 HH1 HV1 BX1 hb2 c0 c1 c2 c3 c4;rcases hpost with ⟨tr,ov,ho,rfl,HO⟩|⟨ho,rfl⟩
 ·have HA:=Lib.hid (fetchF_held (h:=hd) (n:=n) HAK.out ho);clear ho;go_wp2_with fail;go_ret3;rw [HA.out];have hal:Below w2.heap.size w2 (w2.alloc (.cells #[.string ⟨#[104,101,108,100]⟩] 9)):=(Below.refl _ _).alloc (Nat.le_refl _) _;refine ⟨_,_,_,[⟨#[104,101,108,100]⟩],rfl,.inl ⟨rfl,rfl⟩,(FOwn.low HO.out B1.out.size).ext hal,?_,⟨rfl,by decide⟩,HH2.out.below hal,(HN2.out.below hal).later (Nat.le_add_right t 20),⟨_,KeepsU.of (B2.out.trans (hal.mono B2.out.size)) hBn,KeepsU.refl _ _ _ _ _⟩⟩;exact World.ownsRow_lit w2 #[.string ⟨#[104,101,108,100]⟩] 1 B2.out.size (by decide) rfl
 have HA:=Lib.hid (fetchF_from (h:=hd) (n:=n) HAK.out ho);have hBn2:Bn≤w2.heap.size:=Nat.le_trans hBn B2.out.size;obtain ⟨c0,c1,c2,c3,c4⟩:=BX2.out.cells;have C:=fetchTry_any Bn nb t n v l x w2 HN2.out ht hl HS.out HX.out HV2.out hBn2 (fun W hW=>HEB.out W ((B2.out.mono hBn).trans hW)) HG.out;have HFI:=Lib.hid (@tryF_fine n (l.map ruleOf) x);have HBA:=Lib.hid (@tryF_bad n (l.map ruleOf) x);obtain ⟨r,hr⟩:∃r,tryF n (l.map ruleOf) x=r:=⟨_,rfl⟩;rw [hr] at C HA HFI HBA;obtain ⟨er,fs,ls,n'⟩:=r;unfold TryPost at C;dsimp only at C HA HFI HBA;have HC:=Lib.hid C;clear C ho hr;go_wp2_with fail;refine HC.out.mono ?_;clear HC c0 c1 c2 c3 c4 HN2 HV2 BX2;rintro e w3 ⟨fv,lv,ev,zs,rfl,HI,HF,HT,HZ,HN,HK⟩;have HH3:=Lib.hid (HH2.out.apartN HK.out hap);have B3:=Lib.hid ((KeepsU.of (K:=NetRow) (b:=nb) (n:=4) B2.out hBn).trans HK.out);have HF3:=Lib.hid (FOwn.low HF.out B2.out.size);have HT3:=Lib.hid (HT.out.low B2.out.size);clear HH2 HF HT;by_cases hz:er.code=0
 ·obtain ⟨he,hte,_,_⟩:=HFI.out hz;obtain rfl:ev=.nilIface:=HI.out.zero hz;have hB3:Bh≤w3.heap.size:=Nat.le_trans hBw B3.out.below.size;have hrl:=right_len hte;have C:=Lib.hid (heldPut_any Bh hb hd fv fs w3 (fun w' hk=>FOwn.arg (base:=w.heap.size) (hk.owns HF3.out heldRow_files)) hrl.1 hrl.2 HH3.out hB3 (HEB.out w3 B3.out.below).1.1);have HY:Hid (fetchF hd n (l.map ruleOf) x=(⟨0,none⟩,fs,ls,(putH hd fs).2.2,n')):=by show _=_;rw [HA.out,if_pos hz,he]
  clear hz he hte hrl HA HFI HBA HI;go_wp2_with fail;refine C.out.mono ?_;clear C;intro e w4 hpost;unfold HPutPost at hpost;obtain ⟨⟨ev2,rfl,hev⟩,hhi,hk,_⟩:=hpost;have HH4:=Lib.hid hhi;have HK4:=Lib.hid hk;clear hhi hk hev;go_wp2_with fail;go_ret3;rw [HY.out];exact ⟨_,_,_,zs,rfl,.inl ⟨rfl,rfl⟩,HK4.out.toKeeps.owns HF3.out heldRow_files,HK4.out.toKeeps.owns HT3.out kh_str,HZ,HH4,HN.out.apartH HK4.out hap,⟨w3,B3.out,HK4.out⟩⟩
 ·obtain ⟨ty,y,rfl⟩:=HI.out.some_inv hz;have HY:Hid (fetchF hd n (l.map ruleOf) x=(er,fs,ls,hd,n')):=by show _=_;rw [HA.out,if_neg hz]
  clear hz HA HFI HBA;go_wp2_with fail;go_ret3;rw [HY.out];exact ⟨_,_,_,zs,rfl,HI,HF3,HT3,HZ,HH3,HN,⟨w3,B3.out,KeepsU.refl _ _ _ _ _⟩⟩
def ShopRow (o:Obj):Prop:=∃cs fz,o=.cells cs 85 fz
def PRow (o:Obj):Prop:=NetRow o∨HeldRow o∨TapeRow o∨ShopRow o
structure ProgFree (K:Obj→Prop):Prop where
 map:∀es c,¬K (.map es c)
 net:∀cs fz,¬K (.cells cs 55 fz)
 held:∀cs fz,¬K (.cells cs 110 fz)
 disk:∀cs fz,¬K (.cells cs 79 fz)
 byte:∀cs fz,¬K (.cells cs 5 fz)
 shop:∀cs fz,¬K (.cells cs 85 fz)
 rule:∀cs fz,¬K (.cells cs 63 fz)
 want:∀cs fz,¬K (.cells cs 134 fz)
 file:∀cs fz,¬K (.cells cs 170 fz)
 str:∀cs fz,¬K (.cells cs 9 fz)
 int:∀cs fz,¬K (.cells cs 3 fz)
def progTypes:List TypeId:=[55,110,79,5,85,63,134,170,9,3]
theorem ProgFree.of_type (T:TypeId) (hT:∀x∈progTypes,x≠T):ProgFree (fun o=>∃cs fz,o=.cells cs T fz) where
 map:=fun _ _ ⟨_,_,h⟩=>by cases h
 net:=fun _ _ ⟨_,_,h⟩=>by injection h with _ h _;exact hT _ (by simp [progTypes]) h
 held:=fun _ _ ⟨_,_,h⟩=>by injection h with _ h _;exact hT _ (by simp [progTypes]) h
 disk:=fun _ _ ⟨_,_,h⟩=>by injection h with _ h _;exact hT _ (by simp [progTypes]) h
 byte:=fun _ _ ⟨_,_,h⟩=>by injection h with _ h _;exact hT _ (by simp [progTypes]) h
 shop:=fun _ _ ⟨_,_,h⟩=>by injection h with _ h _;exact hT _ (by simp [progTypes]) h
 rule:=fun _ _ ⟨_,_,h⟩=>by injection h with _ h _;exact hT _ (by simp [progTypes]) h
 want:=fun _ _ ⟨_,_,h⟩=>by injection h with _ h _;exact hT _ (by simp [progTypes]) h
 file:=fun _ _ ⟨_,_,h⟩=>by injection h with _ h _;exact hT _ (by simp [progTypes]) h
 str:=fun _ _ ⟨_,_,h⟩=>by injection h with _ h _;exact hT _ (by simp [progTypes]) h
 int:=fun _ _ ⟨_,_,h⟩=>by injection h with _ h _;exact hT _ (by simp [progTypes]) h
theorem ProgFree.or {K L:Obj→Prop} (h:ProgFree K) (k:ProgFree L):ProgFree (fun o=>K o∨L o) where
 map:=fun a b h1=>h1.elim (h.map a b) (k.map a b)
 net:=fun a b h1=>h1.elim (h.net a b) (k.net a b)
 held:=fun a b h1=>h1.elim (h.held a b) (k.held a b)
 disk:=fun a b h1=>h1.elim (h.disk a b) (k.disk a b)
 byte:=fun a b h1=>h1.elim (h.byte a b) (k.byte a b)
 shop:=fun a b h1=>h1.elim (h.shop a b) (k.shop a b)
 rule:=fun a b h1=>h1.elim (h.rule a b) (k.rule a b)
 want:=fun a b h1=>h1.elim (h.want a b) (k.want a b)
 file:=fun a b h1=>h1.elim (h.file a b) (k.file a b)
 str:=fun a b h1=>h1.elim (h.str a b) (k.str a b)
 int:=fun a b h1=>h1.elim (h.int a b) (k.int a b)
theorem Buf.keeps {K:Obj→Prop} {w w':World} {B B2:Nat} {v:Value} {bs:List Value} (h:Buf w B v bs) (hk:Keeps K B2 w w') (h1:∀cs fz,¬K (.cells cs 5 fz)):Buf w' B v bs:=by
 rcases h with h|⟨g,cap,cur,lo,hi,e,q1,q2,q3⟩
 ·exact .inl h
 ·exact .inr ⟨g,cap,cur,lo,hi,e,q1,hk.keep g _ q2 (h1 _ _),q3⟩
theorem TapeIs.keeps {K:Obj→Prop} {w w':World} {B B2 b:Nat} {t:TapeS} (h:TapeIs w B b t) (hk:Keeps K B2 w w') (h1:∀cs fz,¬K (.cells cs 79 fz)) (h2:∀cs fz,¬K (.cells cs 5 fz)):TapeIs w' B b t:=by
 obtain ⟨⟨q1,v,q2,q3⟩,q4⟩:=h;exact ⟨⟨q1,v,hk.keep b _ q2 (h1 _ _),q3.keeps hk h2⟩,q4⟩
theorem RulesOwn.keeps {K:Obj→Prop} {w w':World} {B B2:Nat} {v:Value} {l:List RuleB} (h:RulesOwn w B v l) (hk:Keeps K B2 w w') (h1:∀cs fz,¬K (.cells cs 63 fz)) (h2:∀cs fz,¬K (.cells cs 9 fz)):RulesOwn w' B v l:=by
 obtain ⟨tvs,hl,ho,hr⟩:=h;refine ⟨tvs,hl,hk.owns ho (fun cs=>h1 cs _),fun j hj=>?_⟩;obtain ⟨tv,htv,hrow⟩:=hr j hj;exact ⟨tv,htv,hk.owns hrow (fun cs=>h2 cs _)⟩
structure ProgAt (w:World) (B nb hb tb sb:Nat) (rv lv:Value) (rl:List RuleB) (n:NetB) (S:ShopS) (t:TapeS) (tn:Nat):Prop where
 hsb:B≤sb
 shop:w.heap[sb]? =some (.cells #[.pointer (some ⟨nb,0,none⟩),rv,lv,.pointer (some ⟨hb,0,none⟩),.pointer (some ⟨tb,0,none⟩)] 85 (0,0))
 rules:RulesOwn w B rv rl
 ruled:rl.map ruleOf=S.rules
 lock:WOwn w B lv S.lock
 held:HeldIs w B hb S.held
 tape:TapeIs w B tb t
 net:NetIs w B nb n tn
 apart:nb+2≤hb
def ProgIs (w:World) (B nb sb:Nat) (n:NetB) (S:ShopS) (t:TapeS) (tn:Nat):Prop:=∃hb tb rv lv rl,ProgAt w B nb hb tb sb rv lv rl n S t tn
theorem ProgAt.keeps {K:Obj→Prop} {w w':World} {B B2 nb hb tb sb tn:Nat} {rv lv:Value} {rl:List RuleB} {n:NetB} {S:ShopS} {t:TapeS} (h:ProgAt w B nb hb tb sb rv lv rl n S t tn) (hk:Keeps K B2 w w') (hf:ProgFree K):ProgAt w' B nb hb tb sb rv lv rl n S t tn where
 hsb:=h.hsb
 shop:=hk.keep sb _ h.shop (hf.shop _ _)
 rules:=h.rules.keeps hk hf.rule hf.str
 ruled:=h.ruled
 lock:=hk.owns h.lock (fun cs=>hf.want cs _)
 held:=h.held.keeps hk hf.map hf.held (fun cs=>hf.int cs _) (fun cs=>hf.file cs _)
 tape:=h.tape.keeps hk hf.disk hf.byte
 net:=h.net.keeps hk hf.map hf.net
 apart:=h.apart
theorem ProgAt.below {w w':World} {B nb hb tb sb tn:Nat} {rv lv:Value} {rl:List RuleB} {n:NetB} {S:ShopS} {t:TapeS} (h:ProgAt w B nb hb tb sb rv lv rl n S t tn) (hb2:Below w.heap.size w w'):ProgAt w' B nb hb tb sb rv lv rl n S t tn:=
 h.keeps (K:=fun _=>False) (B2:=w.heap.size) (Keeps.of hb2 (Nat.le_refl _)) ⟨fun _ _ h=>h,fun _ _ h=>h,fun _ _ h=>h,fun _ _ h=>h,fun _ _ h=>h,fun _ _ h=>h,fun _ _ h=>h,fun _ _ h=>h,fun _ _ h=>h,fun _ _ h=>h,fun _ _ h=>h⟩
theorem ProgIs.keeps {K:Obj→Prop} {w w':World} {B B2 nb sb tn:Nat} {n:NetB} {S:ShopS} {t:TapeS} (h:ProgIs w B nb sb n S t tn) (hk:Keeps K B2 w w') (hf:ProgFree K):ProgIs w' B nb sb n S t tn:=by
 obtain ⟨hb,tb,rv,lv,rl,h⟩:=h;exact ⟨hb,tb,rv,lv,rl,h.keeps hk hf⟩
theorem ProgIs.below {w w':World} {B nb sb tn:Nat} {n:NetB} {S:ShopS} {t:TapeS} (h:ProgIs w B nb sb n S t tn) (hb2:Below w.heap.size w w'):ProgIs w' B nb sb n S t tn:=by
 obtain ⟨hb,tb,rv,lv,rl,h⟩:=h;exact ⟨hb,tb,rv,lv,rl,h.below hb2⟩
theorem ProgIs.later {w:World} {B nb sb tn tn':Nat} {n:NetB} {S:ShopS} {t:TapeS} (h:ProgIs w B nb sb n S t tn) (ht:tn≤tn'):ProgIs w B nb sb n S t tn':=by
 obtain ⟨hb,tb,rv,lv,rl,h⟩:=h;exact ⟨hb,tb,rv,lv,rl,{h with net:=h.net.later ht}⟩
def SPart (w:World) (B:Nat) (v:Value) (zs:List ByteArray):Prop:=
 (zs=[]∧∃a c,v=.slice a 0 c∧c≤maxLen∧(a=none→c=0))∨∃g off cap cur,v=.slice (some ⟨g,off,none⟩) zs.length cap∧B≤g∧w.heap[g]? =some (.cells cur 9 (0,0))∧zs.length≤cap∧cap≤maxLen∧∀i,(hi:i<zs.length)→cur[off+i]? =some (.string zs[i])
theorem SPart.keeps {K:Obj→Prop} {w w':World} {B B2:Nat} {v:Value} {zs:List ByteArray} (h:SPart w B v zs) (hk:Keeps K B2 w w') (h1:∀cs fz,¬K (.cells cs 9 fz)):SPart w' B v zs:=by
 rcases h with h|⟨g,off,cap,cur,e,q1,q2,q3⟩
 ·exact .inl h
 ·exact .inr ⟨g,off,cap,cur,e,q1,hk.keep g _ q2 (h1 _ _),q3⟩
theorem SPart.row {w:World} {B:Nat} {v:Value} {zs:List ByteArray} (h:SPart w B v zs):RowP w v zs:=by
 rcases h with ⟨rfl,a,c,rfl,hc,hn⟩|⟨g,off,cap,cur,rfl,q1,q2,q3,q4,q5⟩
 ·exact ⟨a,c,rfl,Nat.zero_le _,hc,hn,fun i hi=>absurd hi (Nat.not_lt_zero _)⟩
 ·refine ⟨_,cap,rfl,q3,q4,(fun h=>by cases h),fun i hi=>⟨g,off,rfl,(Array.getElem?_eq_some_iff.1 q2).1,fun k hk=>?_⟩⟩;rw [Lib.cell_of_heap q2];exact q5 k hk
def RRules (w:World) (B:Nat) (v:Value) (l:List RuleB):Prop:=
 ∃tvs:List Value,tvs.length=l.length∧w.ownsRow B 63 2 v l.length ((l.zip tvs).flatMap fun p=>[Value.string p.1.1,p.2])∧
  ∀j,(hj:j<l.length)→∃tv,tvs[j]? =some tv∧SPart w B tv l[j].2
theorem RRules.keeps {K:Obj→Prop} {w w':World} {B B2:Nat} {v:Value} {l:List RuleB} (h:RRules w B v l) (hk:Keeps K B2 w w') (h1:∀cs fz,¬K (.cells cs 63 fz)) (h2:∀cs fz,¬K (.cells cs 9 fz)):RRules w' B v l:=by
 obtain ⟨tvs,hl,ho,hr⟩:=h;refine ⟨tvs,hl,hk.owns ho (fun cs=>h1 cs _),fun j hj=>?_⟩;obtain ⟨tv,htv,hrow⟩:=hr j hj;exact ⟨tv,htv,hrow.keeps hk h2⟩
theorem RRules.row {w:World} {base:Nat} {v:Value} {l:List RuleB} (h:RRules w base v l):RulesRow w v l:=by
 obtain ⟨tvs,hl,ho,hr⟩:=h;rcases id ho.2 with ⟨rfl,h0⟩|⟨g,cap,cur,rfl,hb,hg,hn,hc,hsz,ht⟩
 ·refine ⟨none,0,by rw [h0],by omega,Nat.zero_le _,fun i hi=>by omega⟩
 ·refine ⟨some ⟨g,0,none⟩,cap,rfl,hn,hc,fun i hi=>⟨g,0,rfl,(Array.getElem?_eq_some_iff.1 hg).1,fun j hj=>?_⟩⟩;obtain ⟨tv,htv,hrow⟩:=hr j hj;have hz:(l.zip tvs)[j]? =some (l[j],tv):=by rw [List.getElem?_zip_eq_some];exact ⟨List.getElem?_eq_getElem hj,htv⟩
  have hzl:j<(l.zip tvs).length:=(List.getElem?_eq_some_iff.1 hz).1;have hz2:(l.zip tvs)[j]=(l[j],tv):=(List.getElem?_eq_some_iff.1 hz).2;have e0:=flatMap_at (fun p:RuleB×Value=>[Value.string p.1.1,p.2]) 2 (fun _=>rfl) (l.zip tvs) j 0 hzl (by decide);have e1:=flatMap_at (fun p:RuleB×Value=>[Value.string p.1.1,p.2]) 2 (fun _=>rfl) (l.zip tvs) j 1 hzl (by decide);rw [hz2] at e0 e1;have c0:=ho.cells (g:=g) rfl (j*2+0) (.string l[j].1) e0;have c1:=ho.cells (g:=g) rfl (j*2+1) tv e1;rw [Addr.add_lit] at c0 c1;exact ⟨by simpa using c0,tv,by simpa [Nat.add_assoc] using c1,hrow.row⟩
end Go.Proofs.YtaabgmbjmfjdjaaGreatDoor
