/- slices.Delete of one file of a row of the call's own; slices.IndexFunc by path: contracts. tree.Drop: the contract. -/
import Derived.Test.YtamimigpnhblmaaGreatDoorJTreeInserts
import Derived.Test.YtamimigpnhblmaaGreatDoorJTreeFew
import Derived.Test.YtamimigpnhblmaaGreatDoorJTreePlains
import Derived.IntWalk
import Derived.Test.YtamimigpnhblmaaGreatDoorJTreeSort
namespace Go.Proofs.YtamimigpnhblmaaGreatDoor
open Go Go.RowKit

theorem setCells_row {w : World} {g o : Nat} {cur : Array Value} {t : TypeId} {cs : List Value} (hg : w.heap[g]? = some (.cells cur t (0, 0))) (hfit : o + cs.length ≤ cur.size) (h1 : ∀ v ∈ cs, v.oneCell' = true) :
    w.setCells g o cs = w.setRow g (splice cur.toList o cs).toArray := by
  have a := run_storeCells_cells (P := Tryz.prog) g o cs 0 w (fun j hj => by rw [Lib.cell_of_heap hg, Array.getElem?_eq_getElem (by omega)]; rfl) (fun j hj => Lib.frozen_of_heap hg _) h1
  have b := run_storeCells_at Tryz.prog g o t cs 0 cur w hg (by simpa using hfit) h1
  rw [a] at b
  simp only [Nat.add_zero] at b
  injection b with _ b
  rw [b, List.append_assoc]; rfl
theorem zero_file : Builtin.zeroCells (Value.agg #[.string ⟨#[]⟩, .bool false, .string ⟨#[]⟩]).cells 1 = #[.string ⟨#[]⟩, .bool false, .string ⟨#[]⟩] := by kernel_rfl
theorem run_clear_file {w : World} {g o c : Nat} {cur : Array Value} {t : TypeId} (hg : w.heap[g]? = some (.cells cur t (0, 0))) (hfit : o + 3 ≤ cur.size) (ty : TypeId) :
    (Builtin.clear_ #[22] ty #[.slice (some ⟨g, o, none⟩) 1 c]).run Tryz.prog w = .ok (.tuple #[]) (w.setRow g (splice cur.toList o [.string ⟨#[]⟩, .bool false, .string ⟨#[]⟩]).toArray) := by
  have b := run_storeCells_at Tryz.prog g o t [.string ⟨#[]⟩, .bool false, .string ⟨#[]⟩] 0 cur w hg (by simpa using hfit) (by intro v hv; simp at hv; rcases hv with rfl | rfl | rfl <;> rfl)
  have hz := Tryz.zeroValue24
  simp only [Nat.add_zero] at b
  simp [Builtin.clear_, run_underlying Tryz.underlying22, hz, zero_file, b, splice]
theorem del_take {α : Type} (L xs z : List α) (a c : Nat) (hac : a ≤ c) (hc : c ≤ xs.length) (hL : xs.length ≤ L.length) (ht : L.take xs.length = xs) (_ : z.length = c - a) :
    (splice (splice L a (xs.drop c)) (a + (xs.drop c).length) z).take (a + (xs.drop c).length) = xs.take a ++ xs.drop c := by
  have hd : (xs.drop c).length = xs.length - c := List.length_drop
  have e0 : L.take a = xs.take a := by
    have : (L.take xs.length).take a = L.take a := by rw [List.take_take, Nat.min_eq_left (by omega)]
    rw [← this, ht]
  have e1 : (splice L a (xs.drop c)).take (a + (xs.drop c).length) = xs.take a ++ xs.drop c := by
    refine take_is (R := L.drop (a + (xs.drop c).length)) ?_ (by rw [List.length_append, List.length_take]; omega)
    show L.take a ++ (xs.drop c ++ L.drop (a + (xs.drop c).length)) = _
    rw [e0, List.append_assoc]
  have hs : (splice L a (xs.drop c)).length = L.length := splice_len _ _ _ (by omega)
  refine take_is (R := z ++ (splice L a (xs.drop c)).drop (a + (xs.drop c).length + z.length)) ?_ (by rw [List.length_append, List.length_take]; omega)
  show (splice L a (xs.drop c)).take (a + (xs.drop c).length) ++ (z ++ _) = _
  rw [e1]

set_option maxHeartbeats 2000000 in
set_option maxRecDepth 100000 in
theorem deleteFile_any (l : List FileB) (base k : Nat) (v : Value) (w : World) (hk : k < l.length) (hl : l.length ≤ 10000) (hv : FOwn w base v l) :
    Calls Tryz.prog 60 #[v, .int .i64 k, .int .i64 ((k : Int) + 1)] w fun e w' => (∃ ov, e = .returned ov ∧ Hid (FOwn w' base ov (l.take k ++ l.drop (k + 1)))) ∧ Below base w w' := by
  obtain ⟨i0, hi0, hz0, hz1, hz2⟩ := info_parts Tryz.infoFile
  rcases hv.2 with ⟨_, h0⟩ | ⟨g, cap, cur, rfl, hb, hg, hn, hc, hs, ht⟩
  · omega
  obtain ⟨n, hnn⟩ : ∃ n, l.length = n := ⟨_, rfl⟩
  obtain ⟨xs, hxs⟩ : ∃ xs, l.flatMap encFile = xs := ⟨_, rfl⟩
  have hxl : xs.length = n * 3 := by rw [← hxs, enc_len, hnn]
  have hx1 : ∀ u ∈ xs, u.oneCell' = true := by rw [← hxs]; exact enc_one l
  have hEN : xs.take (k * 3) ++ xs.drop ((k + 1) * 3) = (l.take k ++ l.drop (k + 1)).flatMap encFile := by
    rw [List.flatMap_append, ← hxs, enc_take, enc_drop]
  have hml : (l.take k ++ l.drop (k + 1)).length = n - 1 := by simp; omega
  rw [hnn, hxs] at ht
  rw [hnn] at hk hl hn ⊢
  have HEN := Lib.hid hEN
  have HML := Lib.hid hml
  clear hEN hml hxs hnn hv
  have hdl : (xs.drop ((k + 1) * 3)).length = (n - (k + 1)) * 3 := by rw [List.length_drop, hxl]; omega
  have hcells : ∀ j v, xs[j]? = some v → w.cell? ⟨g, j, none⟩ = some v := row_cells hg (by rw [hxl]; exact ht)
  have s1 : Hid ((xs.drop ((k + 1) * 3)).length = (n - (k + 1)) * 3) := hdl
  have s2 : Hid (∀ u ∈ xs.drop ((k + 1) * 3), u.oneCell' = true) := fun u hu => hx1 u (List.mem_of_mem_drop hu)
  have s3 : Hid (∀ t, t < (xs.drop ((k + 1) * 3)).length → (w.drew.cell? ⟨g, 0 + k * 3 + t, none⟩).isSome = true ∧ w.drew.frozen? ⟨g, 0 + k * 3 + t, none⟩ = false) := by
    intro t ht2
    rw [hdl] at ht2
    exact ⟨by rw [Lib.cell_of_heap (w := w.drew) hg, Array.getElem?_eq_getElem (by omega)]; rfl, Lib.frozen_of_heap (w := w.drew) hg _⟩
  obtain ⟨A, hA, hsrc⟩ : ∃ A : Addr, (if cap = k + 1 then some (⟨g, 0, none⟩ : Addr) else some ⟨g, (k + 1) * 3, none⟩) = some A ∧ Hid (∀ t u, (xs.drop ((k + 1) * 3))[t]? = some u → w.drew.cell? (A.add t) = some u) := by
    by_cases h : cap = k + 1
    · refine ⟨⟨g, 0, none⟩, by simp [h], fun t u hu => ?_⟩
      have h0 : (xs.drop ((k + 1) * 3)).length = 0 := by rw [hdl]; omega
      rw [List.length_eq_zero_iff.1 h0] at hu
      simp at hu
    · refine ⟨⟨g, (k + 1) * 3, none⟩, by simp [h], fun t u hu => ?_⟩
      rw [Addr.add_lit]
      exact hcells _ u (by rwa [List.getElem?_drop] at hu)
  obtain ⟨c1, hc1⟩ : ∃ c1, splice cur.toList (k * 3) (xs.drop ((k + 1) * 3)) = c1 := ⟨_, rfl⟩
  have hW1 : w.drew.setCells g (0 + k * 3) (xs.drop ((k + 1) * 3)) = w.drew.setRow g c1.toArray := by
    rw [Nat.zero_add, ← hc1]
    exact setCells_row (w := w.drew) hg (by rw [hdl, hs]; omega) s2.out
  have HW1 := Lib.hid hW1
  have hs1 : c1.length = cap * 3 := by rw [← hc1, splice_len _ _ _ (by rw [hdl, Array.length_toList, hs]; omega), Array.length_toList, hs]
  have hg1 : (w.drew.setRow g c1.toArray).heap[g]? = some (.cells c1.toArray 24 (0, 0)) := setRow_block (w := w.drew) hg
  obtain ⟨c2, hc2⟩ : ∃ c2, splice c1 ((n - 1) * 3) [Value.string ⟨#[]⟩, .bool false, .string ⟨#[]⟩] = c2 := ⟨_, rfl⟩
  have hs2 : c2.length = cap * 3 := by rw [← hc2, splice_len _ _ _ (by show _ + 3 ≤ _; omega), hs1]
  have hcl : ∀ ty c, (Builtin.clear_ #[22] ty #[.slice (some ⟨g, (n - 1) * 3, none⟩) 1 c]).run Tryz.prog (w.drew.setRow g c1.toArray) = .ok (.tuple #[]) ((w.drew.setRow g c1.toArray).setRow g c2.toArray) := fun ty c => by
    have := run_clear_file (c := c) (o := (n - 1) * 3) hg1 (by simp [hs1]; omega) ty
    rw [← hc2]
    simpa using this
  have HCL := Lib.hid hcl
  have hg2 : ((w.drew.setRow g c1.toArray).setRow g c2.toArray).heap[g]? = some (.cells c2.toArray 24 (0, 0)) := setRow_block hg1
  have hbb : Below base w ((w.drew.setRow g c1.toArray).setRow g c2.toArray) := below_setRow (below_setRow ((Below.refl base w).drew) hb _) hb _
  have H0 : Hid (c2.take ((n - 1) * 3) = (l.take k ++ l.drop (k + 1)).flatMap encFile) := by
    have h := del_take cur.toList xs [Value.string ⟨#[]⟩, .bool false, .string ⟨#[]⟩] (k * 3) ((k + 1) * 3) (by omega) (by omega) (by have := Array.length_toList (xs := cur); show xs.length ≤ cur.toList.length; omega) (by rw [hxl]; exact ht) (by show 3 = _; omega)
    rw [hdl, show k * 3 + (n - (k + 1)) * 3 = (n - 1) * 3 by omega, hc1, hc2] at h
    exact h.trans HEN.out
  have hkc : k ≤ cap := by omega
  have hjc : k + 1 ≤ cap := by omega
  have hne : ¬ (cap = n - 1) := by omega
  have hw1 : IntKind.i64.wrap ((k : Int) + 1) = (k : Int) + 1 := by rw [IntKind.wrap_i64]; omega
  have hb1 : (0 : Int) ≤ (k : Int) + 1 := by omega
  have htn : ((k : Int) + 1).toNat = k + 1 := by omega
  have hin : (k : Int) + 1 ≤ (n : Int) := by omega
  have hin2 : (k : Int) ≤ (n : Int) := by omega
  have hkk : (k : Int) ≤ (k : Int) + 1 := by omega
  have hkn : ¬ ((k : Int) = (k : Int) + 1) := by omega
  rw [maxLen_eq] at hc
  clear hcl hW1 hc1 hc2 hdl hcells hx1 hxl ht hg hs
  go_enter Tryz.func60, Tryz.ntmps60
  go_wp2_with fail
  go_region_law (refine step_append_room rfl (.tmp 22) (.tmp 25) 22 rfl 24 i0 3 Tryz.underlying22 hi0 hz1 g 0 k cap (by simp [Act.eval, Act.put]) A (n - (k + 1)) (cap - (k + 1)) (xs.drop ((k + 1) * 3)) (by simp [Act.eval, Act.put]) s1.out hsrc.out s2.out (by omega) s3.out ?_; rw [HW1.out])
  go_wp2_with fail
  rw [show k + (n - (k + 1)) = n - 1 by omega, show n - (n - 1) = 1 by omega, HCL.out]
  simp only [Result.andThen_ok]
  go_wp2_with fail
  go_ret
  refine ⟨⟨_, rfl, ?_⟩, hbb⟩
  show World.ownsRow _ _ _ _ _ _ _
  rw [HML.out, ← H0.out]
  exact ⟨by rw [List.length_take, hs2]; omega, .inr ⟨g, cap, _, rfl, hb, hg2, by omega, by rw [maxLen_eq]; omega, by simp [hs2], by simp⟩⟩

/-- What slices.IndexFunc by path finds. -/
def FileIxPost (l : List FileB) (p : ByteArray) (w : World) (e : Ending) (w' : World) : Prop :=
  ((e = .returned (.int .i64 (-1)) ∧ Hid (∀ f ∈ l, f.path ≠ p)) ∨ ∃ k : Nat, e = .returned (.int .i64 k) ∧ ∃ hk : k < l.length, Hid (l[k].path = p)) ∧ Below w.heap.size w w'

set_option maxRecDepth 100000 in
theorem drop1_any (f : FileB) (p : ByteArray) (pb : Nat) (w : World) (hp : w.cell? ⟨pb, 0, none⟩ = some (.string p)) :
    Calls Tryz.prog 59 #[.agg #[.string f.path, .bool f.run, .string f.text], .pointer (some ⟨pb, 0, none⟩)] w fun e w' => e = .returned (.bool (decide (f.path = p))) ∧ Below w.heap.size w w' := by
  have hal : Below w.heap.size w (w.alloc (.cells #[.string f.path, .bool f.run, .string f.text] 24)) := (Below.refl _ _).alloc (Nat.le_refl _) _
  have hpl := World.block_lt_of_cell? _ _ hp
  have HA := Lib.hid hal
  have hq := Lib.hid (str_eqb f.path p)
  clear hal
  go_enter Tryz.func59, Tryz.ntmps59
  go_wp2_with fail
  go_ret
  rw [← hq.out]
  exact ⟨rfl, HA.out⟩

set_option maxHeartbeats 1000000 in
set_option maxRecDepth 100000 in
theorem indexPath_any (v : Value) (l : List FileB) (p : ByteArray) (pb : Nat) (w : World) (hv : FRow w v l) (hl : l.length ≤ 100000) (hp : w.cell? ⟨pb, 0, none⟩ = some (.string p)) :
    Calls Tryz.prog 58 #[v, .func (.func 59) #[] #[.pointer (some ⟨pb, 0, none⟩)]] w (FileIxPost l p w) := by
  obtain ⟨ao, cap, rfl, h1, h2, H3⟩ := hv
  have HM := Lib.hid H3
  have HP := Lib.hid hp
  have HPL := Lib.hid (World.block_lt_of_cell? _ _ hp)
  clear H3 hp
  go_enter Tryz.func58, Tryz.ntmps58
  go_wp2_with fail
  go_loopw [5, 8] (fun _ i wr => ∃ k : Nat, k ≤ l.length ∧ i = .int .i64 k ∧ Hid (∀ f ∈ l.take k, f.path ≠ p) ∧ Below w.heap.size w wr) (fun _ i _ => l.length - (intOf i).toNat)
  case atStart => exact ⟨0, Nat.zero_le _, rfl, (fun f h => by cases h), Below.refl _ _⟩
  case round =>
    obtain ⟨k, hk, rfl, HA, hb⟩ := hrel
    by_cases hlt : k < l.length
    · obtain ⟨b, off, rfl, hbl, hcell⟩ := HM.out k hlt
      obtain ⟨q0, q1, q2⟩ := hcell k hlt
      rw [← hb.cell (p := ⟨b, off + k * 3, none⟩) hbl] at q0
      rw [← hb.cell (p := ⟨b, off + k * 3 + 1, none⟩) hbl] at q1
      rw [← hb.cell (p := ⟨b, off + k * 3 + 2, none⟩) hbl] at q2
      have HT : Hid (l[k].path ≠ p → ∀ f ∈ l.take (k + 1), f.path ≠ p) := fun hne f hf => by
        rw [List.take_succ_eq_append_getElem hlt] at hf
        rcases List.mem_append.1 hf with h | h
        · exact HA.out f h
        · obtain rfl := List.mem_singleton.1 h; exact hne
      clear hcell
      have hpr : wr.cell? ⟨pb, 0, none⟩ = some (.string p) := by rw [hb.cell (p := ⟨pb, 0, none⟩) HPL.out]; exact HP.out
      have C := Lib.hid (drop1_any l[k] p pb wr hpr)
      by_cases hq : l[k].path = p
      · have HQ := Lib.hid hq
        rw [decide_eq_true hq] at C
        obtain ⟨f, hf⟩ : ∃ f, l[k] = f := ⟨_, rfl⟩
        rw [hf] at q0 q1 q2 C
        clear hpr hq HT HA hf
        go_wp2_with fail
        refine C.out.mono ?_
        clear C
        rintro e w2 ⟨rfl, hb2⟩
        have hb3 := hb.trans (hb2.mono hb.size)
        go_wp2_with fail
        go_ret
        exact ⟨.inr ⟨k, rfl, hlt, HQ⟩, hb3⟩
      · have HQ := Lib.hid (HT.out hq)
        rw [decide_eq_false hq] at C
        obtain ⟨f, hf⟩ : ∃ f, l[k] = f := ⟨_, rfl⟩
        rw [hf] at q0 q1 q2 C
        clear hpr hq HT HA hf
        go_wp2_with fail
        refine C.out.mono ?_
        clear C
        rintro e w2 ⟨rfl, hb2⟩
        have hb3 := hb.trans (hb2.mono hb.size)
        go_wp2_with fail
        go_roundw
        case rel => exact ⟨k + 1, by omega, by go_num, HQ, hb3⟩
        case measure => simp [intOf]; omega
    · obtain rfl : k = l.length := by omega
      have HQ : Hid (∀ f ∈ l, f.path ≠ p) := by have := HA.out; rwa [List.take_length] at this
      go_wp2_with fail
      go_ret
      exact ⟨.inl ⟨rfl, HQ⟩, hb⟩
end Go.Proofs.YtamimigpnhblmaaGreatDoor

namespace Go.Proofs.YtamimigpnhblmaaGreatDoor
open Go Go.RowKit

theorem dropL_at {l : List FileB} {p : ByteArray} {k : Nat} (hs : Strict l) (hk : k < l.length) (h : l[k].path = p) : dropL l p = l.take k ++ l.drop (k + 1) := by
  have hp := List.pairwise_iff_getElem.1 (Strict.paths hs)
  have e : l = l.take k ++ l[k] :: l.drop (k + 1) := by rw [List.getElem_cons_drop, List.take_append_drop]
  have h1 : ∀ y ∈ l.take k, y.path ≠ p := fun y hy => by
    obtain ⟨j, hj, rfl⟩ := List.getElem_of_mem hy
    rw [List.length_take] at hj
    rw [List.getElem_take, ← h]
    exact hp j k (by omega) hk (by omega)
  have h2 : ∀ y ∈ l.drop (k + 1), y.path ≠ p := fun y hy => by
    obtain ⟨j, hj, rfl⟩ := List.getElem_of_mem hy
    rw [List.length_drop] at hj
    rw [List.getElem_drop, ← h]
    exact fun e => hp k (k + 1 + j) hk (by omega) (by omega) e.symm
  have e1 : (l.take k).filter (fun g => !decide (g.path = p)) = l.take k := List.filter_eq_self.2 (fun y hy => by simpa using h1 y hy)
  have e2 : (l.drop (k + 1)).filter (fun g => !decide (g.path = p)) = l.drop (k + 1) := List.filter_eq_self.2 (fun y hy => by simpa using h2 y hy)
  unfold dropL
  conv => lhs; rw [e]
  rw [List.filter_append, List.filter_cons_of_neg (by simp [h]), e1, e2]

set_option maxHeartbeats 2000000 in
set_option maxRecDepth 100000 in
theorem treeDrop_any {E : Nat → Addr} (v : Value) (l : List FileB) (p : ByteArray) (w : World) (hv : FArg w v l) (hl : l.length ≤ 9000) (hS : ∀ g ∈ l, SmallF g) (hE : FEnv E w) :
    Calls Tryz.prog 17 #[v, .string p] w (TPost E (dropT l p) w) := by
  have HE := Lib.hid hE
  have HV := Lib.hid hv
  obtain ⟨ao, cap, rfl, hc1, hc2, _⟩ := id hv.1
  obtain ⟨tb, htb⟩ : ∃ tb, w.heap.size = tb := ⟨_, rfl⟩
  have hB : Below w.heap.size w (w.alloc (.cells #[.string p] 9)) := (Below.refl _ w).alloc (Nat.le_refl _) _
  have hT : (w.alloc (.cells #[.string p] 9)).heap[tb]? = some (.cells #[.string p] 9 (0, 0)) := by rw [← htb]; exact heap_alloc_new w _
  obtain ⟨w0, hw0⟩ : ∃ w0, w.alloc (.cells #[.string p] 9) = w0 := ⟨_, rfl⟩
  rw [hw0] at hB hT
  have HW0 := Lib.hid hw0
  have HTB := Lib.hid htb
  have HT := Lib.hid hT
  have C := Lib.hid (treeCheck_any _ l w0 (HV.out.1.ext hB) (by omega) hS (HE.out.ext hB))
  clear hE hS hv hT htb hw0
  go_enter Tryz.func17, Tryz.ntmps17
  go_wp2_with fail
  rw [HW0.out, HTB.out]
  refine C.out.mono ?_
  clear C
  rintro e w1 ⟨⟨ev, rfl, HI⟩, hb1⟩
  have hb := hB.trans (hb1.mono hB.size)
  have HT1 : Hid (w1.heap[tb]? = some (.cells #[.string p] 9 (0, 0))) := (hb1.block tb (Array.getElem?_eq_some_iff.1 HT.out).1).trans HT.out
  clear HT hB hb1
  by_cases hz : (treeEr l).code = 0
  · have hok := Lib.hid ((treeOk_iff l).1 hz)
    have HP : Hid (dropT l p = if (dropL l p).length = l.length then (⟨6, none⟩, []) else (⟨0, none⟩, dropL l p)) := dropT_of hok.out p
    obtain rfl : ev = .nilIface := IsErr.nil_inv (a := (treeEr l).at?) (by have := HI.out; rw [show treeEr l = ⟨(treeEr l).code, (treeEr l).at?⟩ from rfl, hz] at this; exact this)
    have C := Lib.hid (indexPath_any _ l p tb w1 (HV.out.1.ext hb) (by omega) (by rw [Lib.cell_of_heap HT1.out]; rfl))
    clear hz HI HT1
    go_wp2_with fail
    refine C.out.mono ?_
    clear C
    rintro e w2 ⟨⟨rfl, HN⟩ | ⟨k, rfl, hk, HK⟩, hb2⟩
    · have HY : Hid (dropT l p = (⟨6, none⟩, [])) := by show _ = _; rw [HP.out, drop_keep HN.out, if_pos rfl]
      have hbb := hb.trans (hb2.mono hb.size)
      have ex : w2.cell? ⟨5, 0, none⟩ = some (sentV E 5) := (HE.out.ext hbb).1.err 5 (by decide)
      clear HN HP hb2 hb
      go_wp2_with fail
      go_quiet (fail)
      go_wp2_with fail
      go_ret2
      rw [HY.out]
      exact TPost.none (IsErr.sent (by decide)) (hbb.trans ((below_drewN _ _ _).mono hbb.size))
    · have hd := dropL_at hok.out.strict hk HK.out
      have HY : Hid (dropT l p = (⟨0, none⟩, l.take k ++ l.drop (k + 1))) := by
        show _ = _
        rw [HP.out, hd, if_neg (by simp; omega)]
      have hbb := hb.trans (hb2.mono hb.size)
      have C := Lib.hid (cloneFiles_any _ l w2 (by omega) (HV.out.ext hbb))
      have hk0 : ¬ ((k : Int) < 0) := by omega
      clear HK HP hd hb2 hb
      go_wp2_with fail
      refine C.out.mono ?_
      clear C
      rintro e w3 ⟨⟨ov, rfl, HO⟩, hb3⟩
      have hb33 := hbb.trans (hb3.mono hbb.size)
      have HO3 := Lib.hid (FOwn.low HO.out hbb.size)
      have C := Lib.hid (deleteFile_any l w.heap.size k ov w3 hk (by omega) HO3.out)
      clear HO hb3 hbb
      go_wp2_with fail
      refine C.out.mono ?_
      clear C
      rintro e w4 ⟨⟨o4, rfl, HO4⟩, hb4⟩
      have hb44 := hb33.trans hb4
      go_wp2_with fail
      go_ret2
      rw [HY.out]
      exact ⟨⟨_, _, rfl, .inl ⟨rfl, rfl⟩, HO4⟩, hb44⟩
  · obtain ⟨t, x, rfl⟩ := IsErr.some_inv HI.out hz
    have HY : Hid (dropT l p = (treeEr l, [])) := by show _ = _; unfold dropT; rw [if_pos hz]
    clear hz HT1
    go_wp2_with fail
    go_ret2
    rw [HY.out]
    exact TPost.none HI hb
end Go.Proofs.YtamimigpnhblmaaGreatDoor
