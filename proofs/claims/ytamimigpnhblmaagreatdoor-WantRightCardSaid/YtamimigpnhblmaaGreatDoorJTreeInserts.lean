/- slices.Insert of one file into a row of the call's own: the contract. slices.Insert of one file: the walk. -/
import Derived.Test.YtamimigpnhblmaaGreatDoorJFiles
import Derived.Laws.CopyOwn
import Derived.Laws.NewBlocks
import Derived.Lib.Overlaps
import Derived.Lib.AppendZerosOnto
import Derived.Deep.RegionLaw
import Derived.Shelf.RegionOpen
import Derived.Lib.JoinLaws
namespace Go.Proofs.YtamimigpnhblmaaGreatDoor
open Go Go.RowKit

/-- copy of n elements of k cells each, into a row that is known whole. -/
theorem run_copy_rowK {P : Program} (w : World) (dT sT ty elem : TypeId) (g o dLen dCap : Nat) (a : Addr) (sLen sCap k n : Nat) (cur : Array Value) (t : TypeId) (cs : List Value)
    (hu : P.underlying dT = some (.slice elem)) (hs : (P.info? elem).map (·.size) = some k)
    (hg : w.heap[g]? = some (.cells cur t (0, 0))) (hn : n = Nat.min sLen dLen) (hcs : cs.length = n * k)
    (hsrc : ∀ j v, cs[j]? = some v → w.cell? (a.add j) = some v) (hfit : o + cs.length ≤ cur.size) (h1 : ∀ v ∈ cs, v.oneCell' = true) :
    (Builtin.copy_ #[dT, sT] ty #[.slice (some ⟨g, o, none⟩) dLen dCap, .slice (some a) sLen sCap]).run P w =
      .ok (goInt n) (w.setRow g (splice cur.toList o cs).toArray) := by
  have hl := run_loadCells_list (P := P) w a cs hsrc
  have hst := run_storeCells_at P g o t cs 0 cur w hg (by simpa using hfit) h1
  cases hq : P.info? elem with
  | none => simp [hq] at hs
  | some i =>
    have hi : i.size = k := by simpa [hq] using hs
    rw [hcs] at hl
    simp only [Nat.add_zero] at hst
    simp [Builtin.copy_, run_underlying hu, Builtin.lenOf, Builtin.firstCells, sizeOf, typeInfo, hq, hi, ← hn, hl, hst, splice]
theorem wpList_copyR {P : Program} (w : World) {ops : Array Oper} {rest : List Oper} {o : Oper} {a : Act} {Q : Exit → Act → World → Prop} (hgd : o.guard = none) (d s : Operand) (t t' : TypeId)
    (ho : o.op = .call { callee := .builtin .copy, args := #[d, s], argTypes := #[t, t'] }) (v u : Value) (hd : a.eval d = v) (hs : a.eval s = u) {v' : Value} {w' : World}
    (hr : (Builtin.copy_ #[t, t'] o.type #[v, u]).run P w = .ok v' w') (h : wpList P ops Q rest (a.put o.dst v') w') : wpList P ops Q (o :: rest) a w :=
  wpList_plain hgd fun _ hK => by
    unfold Oper.wp execOp
    simp only [ho, resolve, invoke, builtin, Sem.run_bind, Sem.run_pure, Result.andThen_ok, List.map_toArray, List.map_cons, List.map_nil, hd, hs, hr]
    exact hK _ _ h
theorem step_copyR {P : Program} {ops : Array Oper} {o : Oper} {a : Act} {w : World} {K : Act → World → Prop} {Q : Exit → Act → World → Prop} {E : Prop}
    (hg : o.guard = none) (d x : Operand) (dT sT : TypeId) (hop : o.op = Op.call { callee := Callee.builtin Builtin.copy, args := #[d, x], argTypes := #[dT, sT] })
    (v u : Value) (hd : a.eval d = v) (hx : a.eval x = u) {v' : Value} {w' : World} (hr : (Builtin.copy_ #[dT, sT] o.type #[v, u]).run P w = .ok v' w') (hK : K (a.put o.dst v') w') :
    if Region.wanted o (yielded ops a.tmps) = true then Oper.wp P o a w K Q else E := by
  have hw : Region.wanted o (yielded ops a.tmps) = true := by simp [Region.wanted, hg]
  rw [if_pos hw]
  unfold Oper.wp
  simp [execOp, hop, resolve, invoke, builtin, hd, hx, hr, Result.andThen]
  exact hK

theorem splice_len {α : Type} (L : List α) (o : Nat) (cs : List α) (h : o + cs.length ≤ L.length) : (splice L o cs).length = L.length := length_splice L o cs h
theorem take_is {α : Type} {M A R : List α} {n : Nat} (h : M = A ++ R) (hn : A.length = n) : M.take n = A := by rw [h, ← hn, List.take_left]
/-- Moved up, then filled. -/
theorem splice_up {α : Type} (L xs e : List α) (a : Nat) (ha : a ≤ xs.length) (hL : xs.length + e.length ≤ L.length) (ht : L.take xs.length = xs) :
    (splice (splice L (a + e.length) (xs.drop a)) a e).take (xs.length + e.length) = xs.take a ++ (e ++ xs.drop a) := by
  have hd : (xs.drop a).length = xs.length - a := List.length_drop
  have e0 : L.take a = xs.take a := by
    have : (L.take xs.length).take a = L.take a := by rw [List.take_take, Nat.min_eq_left ha]
    rw [← this, ht]
  have e1 : (splice L (a + e.length) (xs.drop a)).take a = xs.take a := by
    unfold splice
    rw [List.take_append_of_le_length (by rw [List.length_take]; omega), List.take_take, Nat.min_eq_left (by omega), e0]
  have e2 : (splice L (a + e.length) (xs.drop a)).drop (a + e.length) = xs.drop a ++ L.drop (a + e.length + (xs.drop a).length) := by
    unfold splice
    exact List.drop_left' (by rw [List.length_take]; omega)
  refine take_is (R := L.drop (a + e.length + (xs.drop a).length)) ?_ (by rw [List.length_append, List.length_append, List.length_take, hd]; omega)
  show (splice L (a + e.length) (xs.drop a)).take a ++ (e ++ (splice L (a + e.length) (xs.drop a)).drop (a + e.length)) = _
  rw [e1, e2]
  simp only [List.append_assoc]
/-- Filled, then what lay behind. -/
theorem splice_new {α : Type} (L xs e : List α) (a : Nat) (ha : a ≤ xs.length) (_ : xs.length + e.length ≤ L.length) (ht : L.take a = xs.take a) :
    (splice (splice L a e) (a + e.length) (xs.drop a)).take (xs.length + e.length) = xs.take a ++ (e ++ xs.drop a) := by
  have hd : (xs.drop a).length = xs.length - a := List.length_drop
  have e1 : (splice L a e).take (a + e.length) = xs.take a ++ e := by
    refine take_is (R := L.drop (a + e.length)) ?_ (by rw [List.length_append, List.length_take]; omega)
    show L.take a ++ (e ++ L.drop (a + e.length)) = _
    rw [ht, List.append_assoc]
  refine take_is (R := (splice L a e).drop (a + e.length + (xs.drop a).length)) ?_ (by rw [List.length_append, List.length_append, List.length_take, hd]; omega)
  show (splice L a e).take (a + e.length) ++ (xs.drop a ++ (splice L a e).drop (a + e.length + (xs.drop a).length)) = _
  rw [e1]
  simp only [List.append_assoc]
theorem row_cells {w : World} {g : Nat} {cur : Array Value} {t : TypeId} {xs : List Value} (hg : w.heap[g]? = some (.cells cur t (0, 0))) (ht : cur.toList.take xs.length = xs) : ∀ j v, xs[j]? = some v → w.cell? ⟨g, j, none⟩ = some v := by
  intro j v hj
  have hl : j < xs.length := (List.getElem?_eq_some_iff.1 hj).1
  rw [← ht, List.getElem?_take_of_lt hl, Array.getElem?_toList] at hj
  simp [World.cell?, hg, hj]
theorem enc_one (l : List FileB) : ∀ u ∈ l.flatMap encFile, u.oneCell' = true := fun u hu => by
  obtain ⟨f, _, hf⟩ := List.mem_flatMap.1 hu
  simp at hf
  rcases hf with rfl | rfl | rfl <;> rfl
theorem enc_one1 (f : FileB) : ∀ u ∈ encFile f, u.oneCell' = true := fun u hu => by
  simp at hu
  rcases hu with rfl | rfl | rfl <;> rfl
theorem enc_len (l : List FileB) : (l.flatMap encFile).length = l.length * 3 := flatMap_len encFile 3 (fun _ => rfl) l
theorem enc_take : ∀ (l : List FileB) (i : Nat), (l.flatMap encFile).take (i * 3) = (l.take i).flatMap encFile
  | [], i => by simp
  | f :: l, 0 => by simp
  | f :: l, i + 1 => by
    rw [List.take_succ_cons, List.flatMap_cons, List.flatMap_cons, ← enc_take l i, show (i + 1) * 3 = (encFile f).length + i * 3 by show _ = 3 + _; omega, List.take_length_add_append]
theorem enc_drop : ∀ (l : List FileB) (i : Nat), (l.flatMap encFile).drop (i * 3) = (l.drop i).flatMap encFile
  | [], i => by simp
  | f :: l, 0 => by simp
  | f :: l, i + 1 => by
    rw [List.drop_succ_cons, List.flatMap_cons, ← enc_drop l i, show (i + 1) * 3 = (encFile f).length + i * 3 by show _ = 3 + _; omega, List.drop_length_add_append]
theorem setRow_block {w : World} {g : Nat} {cur c' : Array Value} {t : TypeId} (hg : w.heap[g]? = some (.cells cur t (0, 0))) : (w.setRow g c').heap[g]? = some (.cells c' t (0, 0)) := setRow_heap w g cur c' t (0, 0) hg
end Go.Proofs.YtamimigpnhblmaaGreatDoor

namespace Go.Proofs.YtamimigpnhblmaaGreatDoor
open Go Go.RowKit

theorem one_cells {w : World} {vb : Nat} {f : FileB} (hvb : w.heap[vb]? = some (.cells (encFile f).toArray 24 (0, 0))) : ∀ j u, (encFile f)[j]? = some u → w.cell? (Addr.add ⟨vb, 0, none⟩ j) = some u := by
  intro j u hj
  rw [Addr.add_lit, Nat.zero_add]
  exact row_cells hvb (xs := encFile f) (by rfl) j u hj
/-- What slices.Insert hands back. -/
def InsertPost (base : Nat) (m : List FileB) (w : World) (e : Ending) (w' : World) : Prop := (∃ ov, e = .returned ov ∧ Hid (FOwn w' base ov m)) ∧ Below base w w'

set_option maxHeartbeats 2000000 in
set_option maxRecDepth 100000 in
theorem insertEnd_any (f : FileB) (l : List FileB) (base vb : Nat) (v : Value) (w : World) (hl : l.length ≤ 10000) (hv : FOwn w base v l) (hvb : w.heap[vb]? = some (.cells (encFile f).toArray 24 (0, 0))) (hbs : base ≤ w.heap.size) :
    Calls Tryz.prog 56 #[v, .int .i64 l.length, .slice (some ⟨vb, 0, none⟩) 1 1] w (InsertPost base (l ++ [f]) w) := by
  obtain ⟨i0, hi0, hz0, hz1, hz2⟩ := info_parts Tryz.infoFile
  obtain ⟨ao, cap, rfl⟩ := hv.shape
  have HV : Hid (w.ownsRow base 24 3 (.slice ao l.length cap) l.length (l.flatMap encFile)) := hv
  have HC := Lib.hid (one_cells hvb)
  have HI := Lib.hid (enc_one1 f)
  have hcap : l.length ≤ cap := by obtain ⟨_, _, e, h, _⟩ := hv.arg.1; injection e with _ _ e; omega
  have hmx : cap ≤ maxLen := by obtain ⟨_, _, e, _, h, _⟩ := hv.arg.1; injection e with _ _ e; omega
  clear hv hvb
  obtain ⟨n, hn⟩ : ∃ n, l.length = n := ⟨_, rfl⟩
  have HN := Lib.hid hn
  rw [hn] at hl hcap HV ⊢
  clear hn
  rw [maxLen_eq] at hmx
  go_enter Tryz.func56, Tryz.ntmps56
  cases ao with
  | none =>
    go_wp2_with (at_builtin; refine wpList_append_own _ rfl _ _ 22 rfl base 24 i0 (.agg #[.string ⟨#[]⟩, .bool false, .string ⟨#[]⟩]) 3 40 Tryz.underlying22 hi0 hz0 hz1 hz2 rfl (by decide) _ n (l.flatMap encFile) rfl HV.out ⟨vb, 0, none⟩ 1 1 (encFile f) rfl rfl HC.out HI.out (by rw [maxLen_eq]; omega) (by omega) hbs ?_)
    intro v' w' hown hgrow _
    have H : Hid (FOwn w' base v' (l ++ [f])) := by
      show World.ownsRow _ _ _ _ _ _ _
      rw [List.length_append, List.flatMap_append, HN.out]
      simpa using hown
    have hb : Below base w w' := (Below.refl _ _).grown hgrow hbs (fun r e => (World.ownsRow.lt HV.out r e).1)
    clear hown hgrow HV HC
    go_wp2_with fail
    go_ret
    exact ⟨⟨_, rfl, H⟩, hb⟩
  | some ad =>
    obtain ⟨ab, ao, asp⟩ := ad
    go_wp2_with (at_builtin; refine wpList_append_own _ rfl _ _ 22 rfl base 24 i0 (.agg #[.string ⟨#[]⟩, .bool false, .string ⟨#[]⟩]) 3 40 Tryz.underlying22 hi0 hz0 hz1 hz2 rfl (by decide) _ n (l.flatMap encFile) rfl HV.out ⟨vb, 0, none⟩ 1 1 (encFile f) rfl rfl HC.out HI.out (by rw [maxLen_eq]; omega) (by omega) hbs ?_)
    all_goals
      intro v' w' hown hgrow _
      have H : Hid (FOwn w' base v' (l ++ [f])) := by
        show World.ownsRow _ _ _ _ _ _ _
        rw [List.length_append, List.flatMap_append, HN.out]
        simpa using hown
      have hb : Below base w w' := (Below.refl _ _).grown hgrow hbs (fun r e => (World.ownsRow.lt HV.out r e).1)
      clear hown hgrow HV HC
      go_wp2_with fail
      go_ret
      exact ⟨⟨_, rfl, H⟩, hb⟩

set_option maxHeartbeats 2000000 in
set_option maxRecDepth 100000 in
/-- There is room, ahead of the end: in place. -/
theorem insertShift_any (f : FileB) (l : List FileB) (base vb g cap i : Nat) (cur : Array Value) (w : World) (hi : i < l.length) (hl : l.length ≤ 10000) (hg : w.heap[g]? = some (.cells cur 24 (0, 0))) (hbase : base ≤ g) (hroom : l.length + 1 ≤ cap) (hmax : cap ≤ maxLen) (hsz : cur.size = cap * 3) (ht : cur.toList.take (l.length * 3) = l.flatMap encFile)
    (hvb : w.heap[vb]? = some (.cells (encFile f).toArray 24 (0, 0))) (hne : vb ≠ g) :
    Calls Tryz.prog 56 #[.slice (some ⟨g, 0, none⟩) l.length cap, .int .i64 i, .slice (some ⟨vb, 0, none⟩) 1 1] w (InsertPost base (l.take i ++ f :: l.drop i) w) := by
  have hinf : (Tryz.prog.info? 24).map (·.size) = some 3 := by kernel_rfl
  have hov : ∀ lb cb, (callFunc 105 #[.slice (some ⟨vb, 0, none⟩) 1 1, .slice (some ⟨g, (i + 1) * 3, none⟩) lb cb]).run Tryz.prog w = .ok (.value (.bool false)) w := fun lb cb => by
    rw [run_callFunc_extern Tryz.func105 (by kernel_rfl) (by kernel_rfl) (by kernel_rfl) (e := Extern.SlicesOverlaps.overlaps #[22, 22] #[4]) (by kernel_rfl),
      Lib.run_overlaps_apart w 22 4 24 Tryz.underlying22 3 Tryz.sizeOf24 ⟨vb, 0, none⟩ ⟨g, (i + 1) * 3, none⟩ 1 1 lb cb hne 24 24 3 (cap * 3) (by simp [World.shape?, hvb]) (by simp [World.shape?, hg, hsz]) (by omega) (by simp [World.frozen?, hvb]) (by simp [World.frozen?, hvb])]
    rfl
  obtain ⟨n, hn⟩ : ∃ n, l.length = n := ⟨_, rfl⟩
  obtain ⟨xs, hxs⟩ : ∃ xs, l.flatMap encFile = xs := ⟨_, rfl⟩
  have hxl : xs.length = n * 3 := by rw [← hxs, enc_len, hn]
  have hx1 : ∀ u ∈ xs, u.oneCell' = true := by rw [← hxs]; exact enc_one l
  have hin : i < n := by omega
  have H0 : (splice (splice cur.toList ((i + 1) * 3) (xs.drop (i * 3))) (i * 3) (encFile f)).take ((n + 1) * 3) = (l.take i ++ f :: l.drop i).flatMap encFile := by
    have h := splice_up cur.toList xs (encFile f) (i * 3) (by omega) (by have := Array.length_toList (xs := cur); show xs.length + 3 ≤ cur.toList.length; omega) (by rw [hxl, ← hn, ht, hxs])
    rw [show i * 3 + (encFile f).length = (i + 1) * 3 by show _ + 3 = _; omega, show xs.length + (encFile f).length = (n + 1) * 3 by show _ + 3 = _; omega] at h
    rw [h, List.flatMap_append, List.flatMap_cons, ← hxs, enc_take, enc_drop]
  have H0 := Lib.hid H0
  rw [hn, hxs] at ht
  rw [hn] at hl hroom ⊢
  have hml : (l.take i ++ f :: l.drop i).length = n + 1 := by simp [hn]; omega
  have HML := Lib.hid hml
  clear hn hxs hi hml
  have hdl : (xs.drop (i * 3)).length = (n - i) * 3 := by rw [List.length_drop, hxl]; omega
  have hcells : ∀ j v, xs[j]? = some v → w.cell? ⟨g, j, none⟩ = some v := row_cells hg (by rw [hxl]; exact ht)
  have hcp1 : ∀ ty dc sc, (Builtin.copy_ #[22, 22] ty #[.slice (some ⟨g, (i + 1) * 3, none⟩) (n - i) dc, .slice (some ⟨g, i * 3, none⟩) (n + 1 - i) sc]).run Tryz.prog w.drew =
      .ok (goInt (n - i : Nat)) (w.drew.setRow g (splice cur.toList ((i + 1) * 3) (xs.drop (i * 3))).toArray) := fun ty dc sc =>
    run_copy_rowK w.drew _ _ ty 24 g ((i + 1) * 3) _ dc ⟨g, i * 3, none⟩ _ sc 3 (n - i) cur 24 (xs.drop (i * 3)) Tryz.underlying22 hinf hg (by simp only [Nat.min_def]; split <;> omega) hdl
      (fun j v hj => by rw [Addr.add_lit]; exact hcells _ v (by rwa [List.getElem?_drop] at hj)) (by rw [hdl, hsz]; omega) (fun u hu => hx1 u (List.mem_of_mem_drop hu))
  have hs1 : (splice cur.toList ((i + 1) * 3) (xs.drop (i * 3))).length = cap * 3 := by rw [splice_len _ _ _ (by rw [hdl, Array.length_toList, hsz]; omega), Array.length_toList, hsz]
  obtain ⟨c1, hc1⟩ : ∃ c1, splice cur.toList ((i + 1) * 3) (xs.drop (i * 3)) = c1 := ⟨_, rfl⟩
  rw [hc1] at hcp1 hs1 H0
  have hcp2 : ∀ (W : World), W.heap[g]? = some (.cells c1.toArray 24 (0, 0)) → (∀ j u, (encFile f)[j]? = some u → W.cell? (Addr.add ⟨vb, 0, none⟩ j) = some u) → ∀ ty dc, (Builtin.copy_ #[22, 22] ty #[.slice (some ⟨g, i * 3, none⟩) (n + 1 - i) dc, .slice (some ⟨vb, 0, none⟩) 1 1]).run Tryz.prog W =
      .ok (goInt (1 : Nat)) (W.setRow g (splice c1 (i * 3) (encFile f)).toArray) := fun W hW hv ty dc => by
    have := run_copy_rowK W 22 22 ty 24 g (i * 3) (n + 1 - i) dc ⟨vb, 0, none⟩ 1 1 3 1 c1.toArray 24 (encFile f) Tryz.underlying22 hinf hW (by simp only [Nat.min_def]; split <;> omega) rfl hv (by simp [hs1]; omega) (enc_one1 f)
    simpa using this
  have hvW : ∀ j u, (encFile f)[j]? = some u → (w.drew.setRow g c1.toArray).cell? (Addr.add ⟨vb, 0, none⟩ j) = some u := by
    refine one_cells (w := w.drew.setRow g c1.toArray) ?_
    rw [setRow_other _ _ _ _ hne]; exact hvb
  have hgW : (w.drew.setRow g c1.toArray).heap[g]? = some (.cells c1.toArray 24 (0, 0)) := setRow_block (w := w.drew) hg
  have hgE : ((w.drew.setRow g c1.toArray).setRow g (splice c1 (i * 3) (encFile f)).toArray).heap[g]? = some (.cells (splice c1 (i * 3) (encFile f)).toArray 24 (0, 0)) := setRow_block hgW
  have hs2 : (splice c1 (i * 3) (encFile f)).length = cap * 3 := by rw [splice_len _ _ _ (by show _ + 3 ≤ _; omega), hs1]
  have hb : Below base w ((w.drew.setRow g c1.toArray).setRow g (splice c1 (i * 3) (encFile f)).toArray) := below_setRow (below_setRow ((Below.refl base w).drew) hbase _) hbase _
  have hz2 : ¬ ((i : Int) = (n : Int)) := by omega
  have hw1 : IntKind.i64.wrap ((i : Int) + 1) = (i : Int) + 1 := by rw [IntKind.wrap_i64]; omega
  have hb1 : (0 : Int) ≤ (i : Int) + 1 := by omega
  have hin2 : i ≤ n := by omega
  have htn : ((i : Int) + 1).toNat = i + 1 := by omega
  have hb2 : ¬ (cap = i + 1) := by omega
  have hb3 : (i : Int) ≤ (n : Int) + 1 := by omega
  have hb4 : ¬ (cap = i) := by omega
  rw [maxLen_eq] at hmax
  clear hc1 hdl hcells hx1 hxl ht
  go_enter Tryz.func56, Tryz.ntmps56
  go_wp2_with (simp only [hov])
  go_region_law (refine step_copyR rfl _ _ 22 22 rfl _ _ (by simp [Act.eval, Act.put]) (by simp [Act.eval, Act.put]) (hcp1 _ _ _) ?_)
  go_wp2_with fail
  rw [hcp2 _ hgW hvW]
  simp only [Result.andThen_ok]
  go_wp2_with fail
  go_ret
  refine ⟨⟨_, rfl, ?_⟩, hb⟩
  show World.ownsRow _ _ _ _ _ _ _
  rw [HML.out, ← H0.out]
  exact ⟨by rw [List.length_take, hs2]; omega, .inr ⟨g, cap, _, rfl, hbase, hgE, hroom, by rw [maxLen_eq]; omega, by simp [hs2], by simp⟩⟩

set_option maxHeartbeats 2000000 in
set_option maxRecDepth 100000 in
/-- No room, ahead of the end: a new row. -/
theorem insertGrow_any (f : FileB) (l : List FileB) (base vb g cap i : Nat) (cur : Array Value) (w : World) (hi : i < l.length) (hl : l.length ≤ 10000) (hg : w.heap[g]? = some (.cells cur 24 (0, 0))) (hnc : l.length ≤ cap) (hroom : cap < l.length + 1) (_ : cur.size = cap * 3) (ht : cur.toList.take (l.length * 3) = l.flatMap encFile)
    (hvb : w.heap[vb]? = some (.cells (encFile f).toArray 24 (0, 0))) (_ : vb ≠ g) (hbs : base ≤ w.heap.size) :
    Calls Tryz.prog 56 #[.slice (some ⟨g, 0, none⟩) l.length cap, .int .i64 i, .slice (some ⟨vb, 0, none⟩) 1 1] w (InsertPost base (l.take i ++ f :: l.drop i) w) := by
  have hinf : (Tryz.prog.info? 24).map (·.size) = some 3 := by kernel_rfl
  obtain ⟨i0, hi0, hz0, hzs, hzb⟩ := info_parts Tryz.infoFile
  obtain ⟨n, hn⟩ : ∃ n, l.length = n := ⟨_, rfl⟩
  obtain ⟨xs, hxs⟩ : ∃ xs, l.flatMap encFile = xs := ⟨_, rfl⟩
  have hxl : xs.length = n * 3 := by rw [← hxs, enc_len, hn]
  have hx1 : ∀ u ∈ xs, u.oneCell' = true := by rw [← hxs]; exact enc_one l
  have hin : i < n := by omega
  have hEN : (xs.take (i * 3) ++ (encFile f ++ xs.drop (i * 3))) = (l.take i ++ f :: l.drop i).flatMap encFile := by
    rw [List.flatMap_append, List.flatMap_cons, ← hxs, enc_take, enc_drop]
  have HEN := Lib.hid hEN
  rw [hn, hxs] at ht
  rw [hn] at hl hroom hnc ⊢
  have hml : (l.take i ++ f :: l.drop i).length = n + 1 := by simp [hn]; omega
  have HML := Lib.hid hml
  clear hn hxs hi hml hEN
  have hdl : (xs.drop (i * 3)).length = (n - i) * 3 := by rw [List.length_drop, hxl]; omega
  have hcells : ∀ j v, xs[j]? = some v → w.cell? ⟨g, j, none⟩ = some v := row_cells hg (by rw [hxl]; exact ht)
  have hold : (Builtin.firstCells i0.size i (.slice (some ⟨g, 0, none⟩) i cap)).run Tryz.prog w.drew = .ok (xs.take (i * 3)).toArray w.drew := by
    rw [hzs]
    exact run_firstCells_some w.drew 3 i ⟨g, 0, none⟩ i cap (xs.take (i * 3)) (by rw [List.length_take]; omega) (fun j v hj => by
      rw [Addr.add_lit, Nat.zero_add]
      rw [List.getElem?_take] at hj
      split at hj
      · exact hcells j v hj
      · cases hj)
  have hrz : ∀ ty, (Builtin.append_ #[22, 3] ty #[.slice (some ⟨g, 0, none⟩) i cap, .int .i64 ((n : Int) + 1 - (i : Int))]).run Tryz.prog w =
      .ok (.slice (some ⟨w.heap.size, 0, none⟩) (n + 1) (grownCap w (n + 1) cap 24)) (w.drew.alloc (.cells ((xs.take (i * 3)).toArray ++ Builtin.zeroCells (Value.agg #[.string ⟨#[]⟩, .bool false, .string ⟨#[]⟩]).cells (n + 1 - i) ++ Builtin.zeroCells (Value.agg #[.string ⟨#[]⟩, .bool false, .string ⟨#[]⟩]).cells (grownCap w (n + 1) cap 24 - (n + 1))) 24)) := fun ty => by
    have h := Lib.run_append_grow_zeros w 22 3 ty 24 i0 _ .i64 .i64 Tryz.underlying22 Tryz.underlying3 hi0 hz0 (some ⟨g, 0, none⟩) i cap (xs.take (i * 3)) hold (n + 1 - i) (by omega) (by omega) (by omega) (by omega) (by rw [hzb]; omega) (by rw [hzb, show i + (n + 1 - i) = n + 1 by omega]; exact growslice_fits hroom (by omega))
    rw [show i + (n + 1 - i) = n + 1 by omega] at h
    rw [show (n : Int) + 1 - (i : Int) = ((n + 1 - i : Nat) : Int) by omega]
    exact h
  have hGn : n + 1 ≤ grownCap w (n + 1) cap 24 := grownCap_ge w _ _ _
  have hG63 : grownCap w (n + 1) cap 24 ≤ 9223372036854775807 := by
    have := grownCap_le_maxLen w (n + 1) cap 24 (by unfold maxLen; omega)
    unfold maxLen at this
    omega
  obtain ⟨G, hG⟩ : ∃ G, G = grownCap w (n + 1) cap 24 := ⟨_, rfl⟩
  rw [← hG] at hrz hGn hG63
  clear hG hold
  obtain ⟨ROW, hROW⟩ : ∃ ROW : List Value, (xs.take (i * 3)).toArray ++ Builtin.zeroCells (Value.agg #[.string ⟨#[]⟩, .bool false, .string ⟨#[]⟩]).cells (n + 1 - i) ++ Builtin.zeroCells (Value.agg #[.string ⟨#[]⟩, .bool false, .string ⟨#[]⟩]).cells (G - (n + 1)) = ROW.toArray := ⟨_, rfl⟩
  have hRl : ROW.length = G * 3 := by
    have := congrArg Array.size hROW
    simp [Builtin.zeroCells, Value.cells] at this
    omega
  have hRt : ROW.take (i * 3) = xs.take (i * 3) := by
    have h2 := congrArg Array.toList hROW
    simp only [Array.toList_append, List.append_assoc] at h2
    refine take_is (R := _) h2.symm ?_
    simp; omega
  rw [hROW] at hrz
  clear hROW
  obtain ⟨N, hN⟩ : ∃ N, w.heap.size = N := ⟨_, rfl⟩
  have hgl : g < N := by rw [← hN]; exact (Array.getElem?_eq_some_iff.1 hg).1
  have hvl : vb < N := by rw [← hN]; exact (Array.getElem?_eq_some_iff.1 hvb).1
  have hNb : base ≤ N := by rw [← hN]; exact hbs
  have hnew : (w.drew.alloc (.cells ROW.toArray 24)).heap[N]? = some (.cells ROW.toArray 24 (0, 0)) := by rw [← hN]; exact heap_alloc_new w.drew _
  have holdb : ∀ k, k < N → (w.drew.alloc (.cells ROW.toArray 24)).heap[k]? = w.heap[k]? := fun k hk => Below.heap_alloc w.drew _ k (by rw [← hN] at hk; exact hk)
  have hba : Below base w (w.drew.alloc (.cells ROW.toArray 24)) := ((Below.refl base w).drew).alloc hbs _
  obtain ⟨c1, hc1⟩ : ∃ c1, splice ROW (i * 3) (encFile f) = c1 := ⟨_, rfl⟩
  have hs1 : c1.length = G * 3 := by rw [← hc1, splice_len _ _ _ (by show _ + 3 ≤ _; omega), hRl]
  obtain ⟨c2, hc2⟩ : ∃ c2, splice c1 ((i + 1) * 3) (xs.drop (i * 3)) = c2 := ⟨_, rfl⟩
  have hs2 : c2.length = G * 3 := by rw [← hc2, splice_len _ _ _ (by rw [hdl]; omega), hs1]
  have H0 : Hid (c2.take ((n + 1) * 3) = (l.take i ++ f :: l.drop i).flatMap encFile) := by
    have h := splice_new ROW xs (encFile f) (i * 3) (by omega) (by show xs.length + 3 ≤ _; omega) hRt
    rw [show i * 3 + (encFile f).length = (i + 1) * 3 by show _ + 3 = _; omega, show xs.length + (encFile f).length = (n + 1) * 3 by show _ + 3 = _; omega, hc1, hc2] at h
    exact h.trans HEN.out
  have hcpA : ∀ (W : World), W.heap[N]? = some (.cells ROW.toArray 24 (0, 0)) → W.heap[vb]? = w.heap[vb]? → ∀ ty dc, (Builtin.copy_ #[22, 22] ty #[.slice (some ⟨N, i * 3, none⟩) (n + 1 - i) dc, .slice (some ⟨vb, 0, none⟩) 1 1]).run Tryz.prog W =
      .ok (goInt (1 : Nat)) (W.setRow N c1.toArray) := fun W hW hv ty dc => by
    have := run_copy_rowK W 22 22 ty 24 N (i * 3) (n + 1 - i) dc ⟨vb, 0, none⟩ 1 1 3 1 ROW.toArray 24 (encFile f) Tryz.underlying22 hinf hW (by simp only [Nat.min_def]; split <;> omega) rfl (one_cells (hv.trans hvb)) (by simp [hRl]; omega) (enc_one1 f)
    rw [← hc1]
    simpa using this
  have hcpB : ∀ (W : World), W.heap[N]? = some (.cells c1.toArray 24 (0, 0)) → W.heap[g]? = w.heap[g]? → ∀ ty dc sc, (Builtin.copy_ #[22, 22] ty #[.slice (some ⟨N, (i + 1) * 3, none⟩) (n - i) dc, .slice (some ⟨g, i * 3, none⟩) (n - i) sc]).run Tryz.prog W =
      .ok (goInt (n - i : Nat)) (W.setRow N c2.toArray) := fun W hW hv ty dc sc => by
    have := run_copy_rowK W 22 22 ty 24 N ((i + 1) * 3) (n - i) dc ⟨g, i * 3, none⟩ (n - i) sc 3 (n - i) c1.toArray 24 (xs.drop (i * 3)) Tryz.underlying22 hinf hW (by simp only [Nat.min_def]; split <;> omega) hdl
      (fun j v hj => by
        have hq : W.cell? ⟨g, i * 3 + j, none⟩ = w.cell? ⟨g, i * 3 + j, none⟩ := by simp [World.cell?, hv]
        rw [Addr.add_lit, hq]
        exact hcells _ v (by rwa [List.getElem?_drop] at hj)) (by rw [hdl]; simp [hs1]; omega) (fun u hu => hx1 u (List.mem_of_mem_drop hu))
    rw [← hc2]
    simpa using this
  obtain ⟨W1, hW1⟩ : ∃ W1, w.drew.alloc (.cells ROW.toArray 24) = W1 := ⟨_, rfl⟩
  rw [hW1] at hnew holdb hba hrz
  have a1 : (W1.setRow N c1.toArray).drew.heap[N]? = some (.cells c1.toArray 24 (0, 0)) := setRow_block hnew
  have a2 : (W1.setRow N c1.toArray).drew.heap[g]? = w.heap[g]? := (setRow_other W1 N g _ (by omega)).trans (holdb g hgl)
  have a3 : ((W1.setRow N c1.toArray).drew.setRow N c2.toArray).heap[N]? = some (.cells c2.toArray 24 (0, 0)) := setRow_block a1
  have hb : Below base w ((W1.setRow N c1.toArray).drew.setRow N c2.toArray) := below_setRow ((below_setRow hba hNb _).drew) hNb _
  have HRZ := Lib.hid hrz
  have HCA := Lib.hid hcpA
  have HCB := Lib.hid hcpB
  clear hrz hcpA hcpB
  have hz2 : ¬ ((i : Int) = (n : Int)) := by omega
  have hz3 : (cap : Int) < (n : Int) + 1 := by omega
  have hw1 : IntKind.i64.wrap ((i : Int) + 1) = (i : Int) + 1 := by rw [IntKind.wrap_i64]; omega
  have hb1 : (0 : Int) ≤ (i : Int) + 1 := by omega
  have hin2 : i ≤ n := by omega
  have htn : ((i : Int) + 1).toNat = i + 1 := by omega
  have hb3 : (i : Int) ≤ (n : Int) := by omega
  have hGi : ¬ (G = i) := by omega
  have hGim : ¬ (G = i + 1) := by omega
  have hci : ¬ (cap = i) := by omega
  have HW1 := Lib.hid hW1
  have HNN := Lib.hid hN
  clear hW1 hN hc1 hc2 hs1 hRl hRt hdl hcells hx1 hxl ht hi0 hz0 hzs hzb
  go_enter Tryz.func56, Tryz.ntmps56
  go_wp2_with (at_builtin; refine Lib.wpList_append_run _ rfl _ _ _ _ rfl _ _ rfl rfl _ _ (HRZ.out _) ?_)
  rw [HNN.out]
  go_wp2_with fail
  rw [HCA.out _ hnew (holdb vb hvl)]
  simp only [Result.andThen_ok]
  go_wp2_with fail
  go_region_law (refine step_copyR rfl _ _ 22 22 rfl (.slice (some ⟨N, (i + 1) * 3, none⟩) (n - i) (G - (i + 1))) (.slice (some ⟨g, i * 3, none⟩) (n - i) (cap - i)) (by simp [Act.eval, Act.put]) (by simp [Act.eval, Act.put]) (HCB.out _ a1 a2 3 (G - (i + 1)) (cap - i)) ?_)
  go_wp2_with fail
  go_ret
  refine ⟨⟨_, rfl, ?_⟩, hb⟩
  show World.ownsRow _ _ _ _ _ _ _
  rw [HML.out, ← H0.out]
  exact ⟨by rw [List.length_take, hs2]; omega, .inr ⟨N, G, _, rfl, hNb, a3, hGn, by rw [maxLen_eq]; exact hG63, by simp [hs2], by simp⟩⟩

/-- slices.Insert of one file. -/
theorem insertFiles_any (f : FileB) (l : List FileB) (base vb i : Nat) (v : Value) (w : World) (hi : i ≤ l.length) (hl : l.length ≤ 10000) (hv : FOwn w base v l) (hvb : w.heap[vb]? = some (.cells (encFile f).toArray 24 (0, 0))) (hne : some vb ≠ v.ownBlock) (hbs : base ≤ w.heap.size) :
    Calls Tryz.prog 56 #[v, .int .i64 i, .slice (some ⟨vb, 0, none⟩) 1 1] w (InsertPost base (l.take i ++ f :: l.drop i) w) := by
  by_cases h : i = l.length
  · subst h
    rw [List.take_length, List.drop_length]
    exact insertEnd_any f l base vb v w hl hv hvb hbs
  · rcases hv.2 with ⟨_, h0⟩ | ⟨g, cap, cur, rfl, hb, hg, hn, hc, hs, ht⟩
    · omega
    · have hne2 : vb ≠ g := fun e => hne (by rw [e]; rfl)
      by_cases hr : l.length + 1 ≤ cap
      · exact insertShift_any f l base vb g cap i cur w (by omega) hl hg hb hr hc hs ht hvb hne2
      · exact insertGrow_any f l base vb g cap i cur w (by omega) hl hg hn (by omega) hs ht hvb hne2 hbs
end Go.Proofs.YtamimigpnhblmaaGreatDoor
