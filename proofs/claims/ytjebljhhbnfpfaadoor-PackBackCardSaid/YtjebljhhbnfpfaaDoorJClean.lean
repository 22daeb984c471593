/- path.Clean by its contract. -/
import Derived.Test.YtjebljhhbnfpfaaDoorJSplitSeq
import Derived.Test.YtjebljhhbnfpfaaDoorJCleanPlain
import Derived.Test.YtjebljhhbnfpfaaDoorJPathed
namespace Go.Proofs.YtjebljhhbnfpfaaDoor
open Go Go.RowKit Go.Shelf
attribute [local go_sem] Oper.semAt_some

structure CEnv (E : Nat → Addr) (w : World) : Prop where
  path : PEnv E w
  shape : w.cell? ⟨2, 0, none⟩ = some (sentV E 2)
  out : w.cell? ⟨3, 0, none⟩ = some (sentV E 9)
theorem CEnv.ext {E : Nat → Addr} {w w' : World} (h : CEnv E w) (hb : Below w.heap.size w w') : CEnv E w' :=
  ⟨h.path.ext hb, by rw [hb.cell (p := ⟨2, 0, none⟩) (lt_of_cell h.shape)]; exact h.shape, by rw [hb.cell (p := ⟨3, 0, none⟩) (lt_of_cell h.out)]; exact h.out⟩

theorem splitSeqOf_any (s : ByteArray) (c : UInt8) (w : World) : Calls Tryd.prog 28 #[.string s, .string ⟨#[c]⟩, .int .i64 0] w fun e w' =>
    e = .returned (.func (.func 40) #[] #[.pointer (some ⟨w.heap.size + 1, 0, none⟩), .pointer (some ⟨w.heap.size, 0, none⟩), .pointer (some ⟨w.heap.size + 2, 0, none⟩)]) ∧
    w' = ((w.alloc (.cells #[.string s] 9)).alloc (.cells #[.string ⟨#[c]⟩] 9)).alloc (.cells #[.int .i64 0] 3) := by
  go_enter Tryd.func28, Tryd.ntmps28
  go_wp2_with fail
  go_ret
  exact ⟨rfl, rfl⟩
theorem splitSeqTop_any (s : ByteArray) (c : UInt8) (w : World) : Calls Tryd.prog 17 #[.string s, .string ⟨#[c]⟩] w fun e w' =>
    e = .returned (.func (.func 40) #[] #[.pointer (some ⟨w.heap.size + 1, 0, none⟩), .pointer (some ⟨w.heap.size, 0, none⟩), .pointer (some ⟨w.heap.size + 2, 0, none⟩)]) ∧
    w' = ((w.alloc (.cells #[.string s] 9)).alloc (.cells #[.string ⟨#[c]⟩] 9)).alloc (.cells #[.int .i64 0] 3) := by
  go_enter Tryd.func17, Tryd.ntmps17
  go_wp2_with fail
  refine (splitSeqOf_any s c w).mono ?_
  rintro e w' ⟨rfl, rfl⟩
  go_wp2_with fail
  go_ret
  exact ⟨rfl, rfl⟩

/-- What path.Clean hands back. -/
def CleanPost (E : Nat → Addr) (s : ByteArray) (w : World) (e : Ending) (w' : World) : Prop :=
  (∃ x : ByteArray, e = .returned (.tuple #[.string x, errV E (cleanE (bl s))]) ∧ Hid (bl x = cleanT (bl s))) ∧ Below w.heap.size w w'

theorem row_mono {w : World} {base base' : Nat} {e : TypeId} {size : Nat} {v : Value} {n : Nat} {xs : List Value} (h : w.ownsRow base e size v n xs) (hb : base' ≤ base) : w.ownsRow base' e size v n xs := by
  obtain ⟨h1, h2 | ⟨g, cap, cur, h3, h4, h5⟩⟩ := h
  · exact ⟨h1, .inl h2⟩
  · exact ⟨h1, .inr ⟨g, cap, cur, h3, Nat.le_trans hb h4, h5⟩⟩
theorem row_form {w : World} {base : Nat} {e : TypeId} {size : Nat} {v : Value} {n : Nat} {xs : List Value} (h : w.ownsRow base e size v n xs) : ∃ a cap, v = .slice a n cap := by
  obtain ⟨h1, ⟨rfl, rfl⟩ | ⟨g, cap, cur, h3, _⟩⟩ := h
  · exact ⟨_, _, rfl⟩
  · exact ⟨_, _, h3⟩
/-- A row without its last element. -/
theorem row_pop {w : World} {base : Nat} {e : TypeId} {g n cap : Nat} {xs : List Value} (h : w.ownsRow base e 1 (.slice (some ⟨g, 0, none⟩) (n + 1) cap) (n + 1) xs) : w.ownsRow base e 1 (.slice (some ⟨g, 0, none⟩) n cap) n xs.dropLast := by
  obtain ⟨h1, h2⟩ := h
  rcases h2 with ⟨h3, h4⟩ | ⟨g', cap', cur, h3, h4, h5, h6, h7, h8, h9⟩
  · omega
  · obtain ⟨rfl, rfl⟩ : g = g' ∧ cap = cap' := by simpa using h3
    refine ⟨by simp [h1], .inr ⟨g, cap, cur, rfl, h4, h5, by omega, h7, h8, ?_⟩⟩
    rw [← h9, List.dropLast_eq_take, List.take_take, List.length_take, Array.length_toList, h8]
    congr 1; omega
/-- A variable's box whose row lies at or beyond b0, behind the append and the store. -/
theorem box_appended {W w1 : World} {n₀ b0 B : Nat} {t e : TypeId} {v v' : Value} {k m : Nat} {xs ys : List Value} {tmp : Obj}
    (hv : Boxed W B t v) (hte : t ≠ e) (hrow : W.ownsRow b0 e 1 v k xs) (h1 : n₀ ≤ B) (h2 : n₀ ≤ b0) (h3 : n₀ ≤ W.heap.size)
    (hown' : w1.ownsRow b0 e 1 v' m ys) (hgrow : (W.alloc tmp).grownBy w1 v.ownBlock) :
    Boxed w1 B t v ∧ Boxed (w1.setCell ⟨B, 0, none⟩ v') B t v' ∧ (w1.setCell ⟨B, 0, none⟩ v').ownsRow b0 e 1 v' m ys ∧ KeepsOthers W (w1.setCell ⟨B, 0, none⟩ v') ∧ Below n₀ W (w1.setCell ⟨B, 0, none⟩ v') := by
  obtain ⟨r1, r2, r3, r4, r5⟩ := Boxed.appended hv hte (row_mono hrow h2) h3 h1 (row_mono hown' h2) hgrow
  exact ⟨r1, r2, hown'.kept (grownBy_setCell' w1 B v') (.inr (r1.not_row hte hown').symm), r4, r5⟩

theorem grown_of {W W' : World} (hb : Below W.heap.size W W') : W.grownBy W' none := ⟨hb.os, hb.tape, hb.output, hb.size, fun k hk _ => hb.block k hk⟩
theorem boxExt {W W' : World} {b : Nat} {t : TypeId} {v : Value} (h : Boxed W b t v) (hb : Below W.heap.size W W') : Boxed W' b t v := h.kept (grown_of hb) (by simp)
theorem rowExt {W W' : World} {base : Nat} {e : TypeId} {size : Nat} {v : Value} {n : Nat} {xs : List Value} (h : W.ownsRow base e size v n xs) (hb : Below W.heap.size W W') : W'.ownsRow base e size v n xs := by
  refine h.kept (grown_of hb) ?_
  cases hv : v.ownBlock with
  | none => exact .inl rfl
  | some g => exact .inr (by simp)
theorem Tryd.infoS : (Tryd.prog.info? 9).map (fun i => (i.zero, i.size, i.bytes)) = some (some (.string ⟨#[]⟩), 1, 16) := by kernel_rfl

theorem addr_add (g j : Nat) : (⟨g, 0, none⟩ : Addr).add j = ⟨g, 0 + j, none⟩ := by
  cases j <;> simp [Addr.add]
theorem join_len : ∀ l : List ByteArray, (∀ z ∈ l, z.size ≤ 1000000) → ([47].intercalate (l.map bl) : List UInt8).length ≤ l.length * 1000001
  | [], _ => by simp [List.intercalate]
  | [x], h => by have hx := h x (by simp); simp [List.intercalate, bl_length]; omega
  | x :: y :: r, h => by
    have hx := h x (by simp)
    have hr := join_len (y :: r) fun z hz => h z (List.mem_cons_of_mem _ hz)
    rw [List.map_cons, List.map_cons, join_cons, List.length_append, List.length_cons, bl_length, ← List.map_cons]
    simp only [List.length_cons] at hr ⊢; omega
/-- strings.Join of a row that is owned. -/
theorem join_any {W : World} {base : Nat} {a : Option Addr} {cap : Nat} {out : List ByteArray} (hr : W.ownsRow base 9 1 (.slice a out.length cap) out.length (out.map Value.string)) (hn : out.length ≤ 6) (hz : ∀ z ∈ out, z.size ≤ 1000000) :
    Calls Tryd.prog 19 #[.slice a out.length cap, .string ⟨#[47]⟩] W fun e w' => (∃ x : ByteArray, e = .returned (.string x) ∧ Hid (bl x = [47].intercalate (out.map bl))) ∧ Below W.heap.size W w' := by
  obtain ⟨h1, ⟨h2, h3⟩ | ⟨g, cap', cur, h3, h4, h5, h6, h7, h8, h9⟩⟩ := id hr
  · obtain ⟨rfl, _, rfl⟩ : a = none ∧ out.length = 0 ∧ cap = 0 := by simpa using h2
    have e0 : out = [] := List.eq_nil_of_length_eq_zero h3
    subst e0
    refine (Tryd.strings_Join_none none 0 ⟨#[47]⟩ W).mono ?_
    rintro e w' ⟨rfl, rfl⟩
    exact ⟨⟨_, rfl, rfl⟩, Below.refl _ _⟩
  · obtain ⟨rfl, rfl⟩ : a = some ⟨g, 0, none⟩ ∧ cap = cap' := by simpa using h3
    have hlen : (Lib.join (out.map (·.data.toList)) (⟨#[47]⟩ : ByteArray).data.toList).length ≤ 140737488355328 := by
      have := join_len out hz
      show ([47].intercalate (out.map bl) : List UInt8).length ≤ _
      omega
    refine (Tryd.strings_Join g 0 cap out ⟨#[47]⟩ W ?_ (Array.getElem?_eq_some_iff.1 h5).1 (by omega) h6 hlen).mono ?_
    · intro j x hx
      have := hr.cells (g := g) rfl j (.string x) (by rw [List.getElem?_map, hx]; rfl)
      rwa [addr_add] at this
    · rintro e w' ⟨rfl, hb⟩
      exact ⟨⟨_, rfl, by show [47].intercalate (out.map (·.data.toList)) = _; rfl⟩, hb⟩

/-- What the rounds of path.Clean keep: the two results as they were, the parts so far. -/
def Kept (w : World) (h : Nat) (pre : List Piece) (W : World) : Prop :=
  ∃ (v : Value) (out : List ByteArray), Boxed W (h + 2) 52 v ∧ W.ownsRow (h + 6) 9 1 v out.length (out.map Value.string) ∧ out.length ≤ pre.length ∧ Hid (∀ z ∈ out, z.size ≤ 1000000) ∧
    Hid (∀ rest, cleanW [] (strs pre ++ rest) = cleanW (out.map bl) rest) ∧ Boxed W h 9 (.string ⟨#[]⟩) ∧ Boxed W (h + 1) 26 .nilIface ∧ Below h w W ∧ h + 6 ≤ W.heap.size
/-- What a round that returns leaves. -/
def Left (E : Nat → Addr) (w : World) (h : Nat) (pre : List Piece) (W : World) : Prop :=
  ∃ k : Nat, Boxed W h 9 (.string ⟨#[]⟩) ∧ Boxed W (h + 1) 26 (sentV E k) ∧ Hid (∀ rest, (cleanW [] (strs pre ++ rest)).1 = k + 1) ∧ Below h w W

theorem boxed_calm {X Y : World} {row : Option Nat} {B Bs b : Nat} {t : TypeId} {v : Value} (h : Boxed X b t v) (hg : X.grownBy Y row) (hr : ∀ r, row = some r → r = Bs ∨ (B ≤ r ∧ ∃ o : Obj, X.heap[r]? = some o ∧ o.isCells = false)) (h1 : b ≠ Bs) (h2 : b < B) : Boxed Y b t v :=
  h.kept hg (fun e => by rcases hr b e.symm with h | ⟨h, _⟩ <;> omega)
theorem below_calm {w X Y : World} {row : Option Nat} {B Bs n : Nat} (h : Below n w X) (hg : X.grownBy Y row) (hr : ∀ r, row = some r → r = Bs ∨ (B ≤ r ∧ ∃ o : Obj, X.heap[r]? = some o ∧ o.isCells = false)) (h1 : n ≤ Bs) (h2 : n ≤ B) (h3 : n ≤ X.heap.size) : Below n w Y :=
  h.grown hg h3 (fun k e => by rcases hr k e with h | ⟨h, _⟩ <;> omega)
theorem kept_calm (w : World) (h : Nat) : Calm (h + 6) (h + 3) (Kept w h) := by
  rintro s X Y row ⟨v, out, hv, hr, hl, hz, HI, b1, b2, hB, hs⟩ hg hrow
  refine ⟨v, out, boxed_calm hv hg hrow (by omega) (by omega), hr.kept hg ?_, hl, hz, HI, boxed_calm b1 hg hrow (by omega) (by omega), boxed_calm b2 hg hrow (by omega) (by omega), below_calm hB hg hrow (by omega) (by omega) (by omega), Nat.le_trans hs hg.size⟩
  rcases hr.2 with ⟨rfl, _⟩ | ⟨g, cap, cur, rfl, hgb, hgc, _⟩
  · exact .inl rfl
  · refine .inr fun e' => ?_
    rcases hrow g (by simpa [Value.ownBlock] using e'.symm) with h | ⟨_, o, ho, hc⟩
    · omega
    · rw [hgc] at ho; cases ho; cases hc
theorem left_calm (E : Nat → Addr) (w : World) (h : Nat) : Calm (h + 6) (h + 3) (fun pre W => Left E w h pre W ∧ h + 6 ≤ W.heap.size) := by
  rintro s X Y row ⟨⟨k, b1, b2, HK, hB⟩, hs⟩ hg hrow
  exact ⟨⟨k, boxed_calm b1 hg hrow (by omega) (by omega), boxed_calm b2 hg hrow (by omega) (by omega), HK, below_calm hB hg hrow (by omega) (by omega) (by omega)⟩, Nat.le_trans hs hg.size⟩

theorem splitYields (w0 : World) (Bs : Nat) (s : ByteArray) (c : UInt8) (hs : s.size ≤ 1000000) (m : Nat)
    (k1 : Boxed w0 Bs 9 (.string s)) (k2 : Boxed w0 (Bs + 1) 9 (.string ⟨#[c]⟩)) (k3 : Boxed w0 (Bs + 2) 3 (.int .i64 0)) :
    Yields Fence.wide m Tryd.prog 40 #[.pointer (some ⟨Bs + 1, 0, none⟩), .pointer (some ⟨Bs, 0, none⟩), .pointer (some ⟨Bs + 2, 0, none⟩)] (fun x : Piece => #[Value.string x.1]) Bs (Bs + 3) Bs 1000001
      (fun xs => strs xs = cutL c (bl s)) (fun pre => ∃ rest, strs pre ++ rest = cutL c (bl s)) w0 := by
  intro l J Jx W hb hJ hJx hY h0
  have e : ∀ b, b < w0.heap.size → W.heap[b]? = w0.heap[b]? := fun b h => hb.block b h
  exact splitOne_in l Bs _ s c hs m J Jx hJ W hY ((e _ k1.lt).trans k1) ((e _ k2.lt).trans k2) ((e _ k3.lt).trans k3) h0
end Go.Proofs.YtjebljhhbnfpfaaDoor
