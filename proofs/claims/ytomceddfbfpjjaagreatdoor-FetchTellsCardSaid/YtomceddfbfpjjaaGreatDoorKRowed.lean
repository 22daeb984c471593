/- A slice value that reads as a list: each element's cells. The model's steps on strings, at numbers that are Nats in disguise: an index, a piece. What the call owns, a row of elements: reads as its list. strings.Cut by its contract. Parts of a row that a call owns, as an append takes them: elements of any size. An append within a region that draws its order, onto a row of the call's own. -/
import Derived.Test.YtomceddfbfpjjaaGreatDoorKErrors
import Derived.Deep.QuietTactic
import Derived.BigQuiet
import Derived.Test.YtomceddfbfpjjaaGreatDoorProg
import Derived.WalkKit
import Derived.Laws.Slices
import Derived.Laws.Strings2
import Derived.Test.YtomceddfbfpjjaaGreatDoorKPlainly
import Derived.Test.YtomceddfbfpjjaaGreatDoorKShelf
import Derived.Laws.AppendOwnNone
import Derived.Lib.SliceRun
import Derived.Deep.RegionLaw
import Derived.Laws.AppendOwn
namespace Go.Proofs.YtomceddfbfpjjaaGreatDoor
open Go Go.RowKit

/-- The slice value v reads in w as the list l; element x takes the cells 'enc x', so many each. -/
def Row {α : Type} (enc : α → List Value) (size : Nat) (w : World) (v : Value) (l : List α) : Prop :=
  (v = .slice none 0 0 ∧ l = []) ∨ ∃ b off cap, v = .slice (some ⟨b, off, none⟩) l.length cap ∧ l.length ≤ cap ∧ cap ≤ maxLen ∧ b < w.heap.size ∧
    ∀ i, (hi : i < l.length) → ∀ j, j < size → w.cell? ⟨b, off + i * size + j, none⟩ = some ((enc l[i]).getD j undef)

theorem Row.ext {α : Type} {enc : α → List Value} {size : Nat} {w w' : World} {v : Value} {l : List α} (h : Row enc size w v l) (hb : Below w.heap.size w w') : Row enc size w' v l := by
  rcases h with h | ⟨b, off, cap, h1, h2, h3, h4, h5⟩
  · exact .inl h
  · exact .inr ⟨b, off, cap, h1, h2, h3, Nat.lt_of_lt_of_le h4 hb.size, fun i hi j hj => by rw [hb.cell (p := ⟨b, off + i * size + j, none⟩) h4]; exact h5 i hi j hj⟩

theorem Row.nil {α : Type} (enc : α → List Value) (size : Nat) (w : World) : Row enc size w (.slice none 0 0) ([] : List α) := .inl ⟨rfl, rfl⟩

abbrev encInt (n : Int) : List Value := [.int .i64 n]
abbrev encStr (s : ByteArray) : List Value := [.string s]

/-- Elements of one cell. -/
theorem Row.one {α : Type} {f : α → Value} {w : World} {v : Value} {l : List α} (h : Row (fun x => [f x]) 1 w v l) :
    (v = .slice none 0 0 ∧ l = []) ∨ ∃ b off cap, v = .slice (some ⟨b, off, none⟩) l.length cap ∧ l.length ≤ cap ∧ cap ≤ maxLen ∧ b < w.heap.size ∧
      ∀ i, (hi : i < l.length) → w.cell? ⟨b, off + i, none⟩ = some (f l[i]) := by
  rcases h with h | ⟨b, off, cap, h1, h2, h3, h4, h5⟩
  · exact .inl h
  · exact .inr ⟨b, off, cap, h1, h2, h3, h4, fun i hi => by simpa using h5 i hi 0 (by decide)⟩

/-- The same, nil or not: where there is an element there is an address. -/
theorem Row.parts {α : Type} {f : α → Value} {w : World} {v : Value} {l : List α} (h : Row (fun x => [f x]) 1 w v l) :
    ∃ ao cap, v = .slice ao l.length cap ∧ l.length ≤ cap ∧ cap ≤ maxLen ∧ (∀ i, (hi : i < l.length) → ∃ b off, ao = some ⟨b, off, none⟩ ∧ b < w.heap.size ∧ ∀ k, (hk : k < l.length) → w.cell? ⟨b, off + k, none⟩ = some (f l[k])) := by
  rcases h.one with ⟨rfl, rfl⟩ | ⟨b, off, cap, rfl, h1, h2, h3, h4⟩
  · exact ⟨none, 0, rfl, Nat.le_refl _, Nat.zero_le _, fun i hi => absurd hi (Nat.not_lt_zero _)⟩
  · exact ⟨some ⟨b, off, none⟩, cap, rfl, h1, h2, fun i hi => ⟨b, off, rfl, h3, h4⟩⟩

theorem below_drewN (B : Nat) (w : World) (n : Nat) : Below B w (w.drewN n) := ⟨rfl, rfl, rfl, Nat.le_refl _, fun _ _ => rfl⟩
theorem maxLen_eq : maxLen = 9223372036854775807 := rfl
/-- A new block of single cells reads as its list. -/
theorem Row.block1 {α : Type} (f : α → Value) (w : World) (l : List α) (t : TypeId) (hl : l.length ≤ maxLen) (b n : Nat) (hb : b = w.heap.size) (hn : n = l.length) :
    Row (fun x => [f x]) 1 (w.alloc (.cells (l.map f).toArray t)) (.slice (some ⟨b, 0, none⟩) n n) l := by
  subst hb; subst hn
  refine .inr ⟨w.heap.size, 0, l.length, rfl, Nat.le_refl _, hl, by simp, fun i hi j hj => ?_⟩
  obtain rfl : j = 0 := by omega
  rw [World.cell?_alloc_at _ _ _ _ rfl]
  simp [hi]
end Go.Proofs.YtomceddfbfpjjaaGreatDoor

namespace Go.Proofs.YtomceddfbfpjjaaGreatDoor
open Go Go.RowKit

theorem index_nat (s : ByteArray) (i : Int) (k : Nat) (h : k < s.size) (e : i = (k : Int)) (W : World) : (Instr.index 9 (.string s) (.int .i64 i)).run Tryz.prog W = .ok (.int .u8 s[k].toNat) W := by
  subst e
  rw [run_index_string W 9 s .i64 k Tryz.underlying9]
  simp [h]
theorem slice_nat (s : ByteArray) (i j : Int) (a b : Nat) (hab : a ≤ b) (hb : b ≤ s.size) (ei : i = (a : Int)) (ej : j = (b : Int)) (W : World) :
    (Instr.slice 9 (.string s) (some (.int .i64 i)) (some (.int .i64 j)) none).run Tryz.prog W = .ok (.string (s.extract a b)) W := by
  subst ei; subst ej
  rw [run_slice_string W 9 s .i64 .i64 a b Tryz.underlying9 (by omega) (by omega) (by omega)]
  simp
theorem slice_from (s : ByteArray) (i : Int) (a : Nat) (ha : a ≤ s.size) (ei : i = (a : Int)) (W : World) :
    (Instr.slice 9 (.string s) (some (.int .i64 i)) none none).run Tryz.prog W = .ok (.string (s.extract a s.size)) W := by
  subst ei
  rw [run_slice_string_l W 9 s Tryz.underlying9 .i64 a (by omega) (by omega)]
  simp
theorem slice_to (s : ByteArray) (j : Int) (b : Nat) (hb : b ≤ s.size) (ej : j = (b : Int)) (W : World) :
    (Instr.slice 9 (.string s) none (some (.int .i64 j)) none).run Tryz.prog W = .ok (.string (s.extract 0 b)) W := by
  subst ej
  rw [run_slice_string_h W 9 s Tryz.underlying9 .i64 b (by omega) (by omega)]
  simp
end Go.Proofs.YtomceddfbfpjjaaGreatDoor

namespace Go.Proofs.YtomceddfbfpjjaaGreatDoor
open Go Go.RowKit

theorem flatMap_at {α : Type} (enc : α → List Value) (size : Nat) (hs : ∀ x, (enc x).length = size) : ∀ (l : List α) (i j : Nat) (hi : i < l.length), j < size → (l.flatMap enc)[i * size + j]? = (enc l[i])[j]?
  | [], i, j, hi, _ => absurd hi (Nat.not_lt_zero _)
  | x :: l, 0, j, _, hj => by
    simp only [List.flatMap_cons, Nat.zero_mul, Nat.zero_add, List.getElem_cons_zero]
    rw [List.getElem?_append_left (by rw [hs]; exact hj)]
  | x :: l, i + 1, j, hi, hj => by
    simp only [List.flatMap_cons, List.getElem_cons_succ]
    rw [List.getElem?_append_right (by rw [hs, Nat.succ_mul]; omega), hs, Nat.succ_mul, show i * size + size + j - size = i * size + j by omega]
    exact flatMap_at enc size hs l i j (by simpa using hi) hj
theorem flatMap_len {α : Type} (enc : α → List Value) (size : Nat) (hs : ∀ x, (enc x).length = size) (l : List α) : (l.flatMap enc).length = l.length * size := by
  induction l with
  | nil => simp
  | cons x l ih => rw [List.flatMap_cons, List.length_append, ih, hs, List.length_cons, Nat.succ_mul]; omega

theorem Row.of_owns {α : Type} {enc : α → List Value} {size base : Nat} {e : TypeId} {w : World} {v : Value} {l : List α} (hs : ∀ x, (enc x).length = size) (h : w.ownsRow base e size v l.length (l.flatMap enc)) : Row enc size w v l := by
  rcases h.2 with ⟨rfl, h0⟩ | ⟨g, cap, cur, rfl, hb, hg, hn, hc, hsz, ht⟩
  · exact .inl ⟨rfl, List.eq_nil_of_length_eq_zero h0⟩
  · refine .inr ⟨g, 0, cap, rfl, hn, hc, (Array.getElem?_eq_some_iff.1 hg).1, fun i hi j hj => ?_⟩
    have h1 := flatMap_at enc size hs l i j hi hj
    have h2 : (enc l[i])[j]? = some ((enc l[i]).getD j undef) := by
      rw [List.getD, List.getElem?_eq_getElem (by rw [hs]; exact hj)]; rfl
    rw [h2] at h1
    have h3 := h.cells (g := g) rfl (i * size + j) _ h1
    have hadd : (⟨g, 0, none⟩ : Addr).add (i * size + j) = ⟨g, 0 + i * size + j, none⟩ := by
      rw [Addr.add_lit]; simp
    rwa [hadd] at h3

/-- What is owned and what is elsewhere: kept by what grows below. -/
theorem owns_below {base : Nat} {e : TypeId} {size : Nat} {w w' : World} {v : Value} {n : Nat} {xs : List Value} (h : w.ownsRow base e size v n xs) (hb : Below w.heap.size w w') : w'.ownsRow base e size v n xs :=
  h.kept (row := none) ⟨hb.os, hb.tape, hb.output, hb.size, fun k hk _ => hb.block k hk⟩ (by cases v.ownBlock <;> simp)
end Go.Proofs.YtomceddfbfpjjaaGreatDoor

namespace Go.Proofs.YtomceddfbfpjjaaGreatDoor
open Go Go.RowKit

theorem strCut_len (l sep : List UInt8) : (Lib.cut l sep).1.length ≤ l.length ∧ (Lib.cut l sep).2.1.length ≤ l.length := by
  unfold Lib.cut
  split
  · constructor
    · simp; omega
    · simp
  · simp
theorem strCut_any (s sep : ByteArray) (w : World) (hs : s.size ≤ 100000000) (hm : ∃ m, w.cell? ⟨15, 0, none⟩ = some (.int .i64 m)) :
    Calls Tryz.prog 116 #[.string s, .string sep] w fun e w' =>
      (∃ (a b : ByteArray) (c : Bool), e = .returned (.tuple #[.string a, .string b, .bool c]) ∧ Hid (Lib.cut (bl s) (bl sep) = (bl a, bl b, c)) ∧ a.size ≤ s.size ∧ b.size ≤ s.size) ∧ Below w.heap.size w w' := by
  obtain ⟨m, hm⟩ := hm
  refine (Tryz.strings_Cut s sep m w (by omega) hm).mono ?_
  rintro e w' ⟨rfl, n, rfl⟩
  have h := strCut_len (bl s) (bl sep)
  rw [bl_length] at h
  exact ⟨⟨_, _, _, rfl, rfl, by rw [← bl_length]; exact h.1, by rw [← bl_length]; exact h.2⟩, below_drewN _ _ _⟩
end Go.Proofs.YtomceddfbfpjjaaGreatDoor

namespace Go.Proofs.YtomceddfbfpjjaaGreatDoor
open Go Go.RowKit

theorem flatMap_drop {α : Type} (enc : α → List Value) (size : Nat) (hs : ∀ x, (enc x).length = size) : ∀ (l : List α) (i : Nat), (l.flatMap enc).drop (i * size) = (l.drop i).flatMap enc
  | l, 0 => by simp
  | [], i + 1 => by simp
  | x :: l, i + 1 => by
    rw [List.flatMap_cons, Nat.succ_mul, Nat.add_comm, ← List.drop_drop, ← hs x, List.drop_left, List.drop_succ_cons, hs x]
    exact flatMap_drop enc size hs l i
theorem flatMap_take {α : Type} (enc : α → List Value) (size : Nat) (hs : ∀ x, (enc x).length = size) : ∀ (l : List α) (i : Nat), (l.flatMap enc).take (i * size) = (l.take i).flatMap enc
  | l, 0 => by simp
  | [], i + 1 => by simp
  | x :: l, i + 1 => by
    rw [List.flatMap_cons, Nat.succ_mul, Nat.add_comm, ← hs x, List.take_length_add_append, List.take_succ_cons, List.flatMap_cons, hs x, flatMap_take enc size hs l i]
/-- Part of a row, as an append takes it. -/
theorem own_news {α : Type} {enc : α → List Value} {size : Nat} (hs : ∀ x, (enc x).length = size) {w : World} {base b n cap : Nat} {e : TypeId} {l : List α} (h : w.ownsRow base e size (.slice (some ⟨b, 0, none⟩) n cap) n (l.flatMap enc)) (i m o : Nat) (ho : m = 0 ∨ o = i * size) :
    ∀ j u, (((l.drop i).take m).flatMap enc)[j]? = some u → w.cell? ((⟨b, o, none⟩ : Addr).add j) = some u := by
  rcases ho with rfl | rfl
  · intro j u hj; rw [List.take_zero] at hj; cases hj
  · intro j u hj
    rw [← flatMap_take enc size hs, ← flatMap_drop enc size hs] at hj
    have hjl : j < m * size := by
      have := (List.getElem?_eq_some_iff.1 hj).1
      rw [List.length_take] at this
      omega
    rw [List.getElem?_take_of_lt hjl, List.getElem?_drop] at hj
    have := h.cells (g := b) rfl (i * size + j) u hj
    rw [Addr.add_lit] at this ⊢
    rw [Nat.zero_add] at this
    exact this
/-- What an append takes in: nothing (nil), or the cells at an address. -/
def Srcs (w : World) (size : Nat) (sv : Value) (m : Nat) (news : List Value) : Prop :=
  (sv = .slice none 0 0 ∧ m = 0 ∧ news = []) ∨ ∃ ad c, sv = .slice (some ad) m c ∧ news.length = m * size ∧ (∀ j u, news[j]? = some u → w.cell? (ad.add j) = some u) ∧ ∀ u ∈ news, u.oneCell' = true
theorem wpList_append_src {P : Program} (w : World) {ops : Array Oper} {rest : List Oper} {o : Oper} {a : Act} {Q : Exit → Act → World → Prop} (hgd : o.guard = none) (s x : Operand) (t : TypeId)
    (ho : o.op = .call { callee := .builtin .append, args := #[s, x], argTypes := #[t, t] })
    (base : Nat) (e : TypeId) (i : TypeInfo) (z : Value) (size bytes : Nat) (ht : P.underlying t = some (.slice e)) (hi : P.info? e = some i) (hz : i.zero = some z)
    (hsize : i.size = size) (hby : i.bytes = bytes) (hzs : z.cells.size = size) (hsz : 0 < size)
    (v : Value) (n : Nat) (xs : List Value) (hs : a.eval s = v) (hown : w.ownsRow base e size v n xs)
    (sv : Value) (m : Nat) (news : List Value) (hx : a.eval x = sv) (hsrc : Srcs w size sv m news)
    (h63 : n + m ≤ maxLen) (hbytes : (n + m) * bytes ≤ 140737488355328) (hbase : base ≤ w.heap.size)
    (h : ∀ v' w', w'.ownsRow base e size v' (n + m) (xs ++ news) → w.grownBy w' v.ownBlock → wpList P ops Q rest (a.put o.dst v') w') : wpList P ops Q (o :: rest) a w := by
  rcases hsrc with ⟨h1, h2, h3⟩ | ⟨ad, c, h1, h2, h3, h4⟩
  · subst h2; subst h3
    refine wpList_append_own_none hgd s x t ho base e i size ht hi v n xs hs hown (hx.trans h1) (h v w (by rw [List.append_nil]; exact hown) ?_)
    exact ⟨rfl, rfl, rfl, Nat.le_refl _, fun _ _ _ => rfl⟩
  · exact wpList_append_own w hgd s x t ho base e i z size bytes ht hi hz hsize hby hzs hsz v n xs hs hown ad m c news (hx.trans h1) h2 h3 h4 h63 hbytes hbase fun v' w' g1 g2 _ => h v' w' g1 g2
theorem oneCells {α : Type} {enc : α → List Value} (h1 : ∀ x, ∀ u ∈ enc x, u.oneCell' = true) (l : List α) : ∀ u ∈ l.flatMap enc, u.oneCell' = true := fun u hu => by
  obtain ⟨x, _, hx⟩ := List.mem_flatMap.1 hu
  exact h1 x u hx
/-- A whole row as a source. -/
theorem Srcs.whole {α : Type} {enc : α → List Value} {size : Nat} (hs : ∀ x, (enc x).length = size) (h1 : ∀ x, ∀ u ∈ enc x, u.oneCell' = true) {w : World} {v : Value} {l : List α} (h : Row enc size w v l) : Srcs w size v l.length (l.flatMap enc) := by
  rcases h with ⟨rfl, rfl⟩ | ⟨b, off, cap, rfl, _, _, _, hc⟩
  · exact .inl ⟨rfl, rfl, rfl⟩
  · refine .inr ⟨_, cap, rfl, flatMap_len enc size hs l, fun j u hj => ?_, oneCells h1 l⟩
    have hjl := (List.getElem?_eq_some_iff.1 hj).1
    rw [flatMap_len enc size hs] at hjl
    have h0 : 0 < size := Nat.pos_of_ne_zero fun e => by subst e; simp at hjl
    have hq : j / size < l.length := Nat.div_lt_of_lt_mul (by rwa [Nat.mul_comm] at hjl)
    have hr := Nat.mod_lt j h0
    have e := flatMap_at enc size hs l (j / size) (j % size) hq hr
    rw [Nat.mul_comm, Nat.div_add_mod] at e
    rw [Addr.add_lit]
    have := hc (j / size) hq (j % size) hr
    rw [show off + j = off + (j / size) * size + j % size by rw [Nat.mul_comm, Nat.add_assoc, Nat.div_add_mod]]
    rw [this, List.getD_eq_getElem?_getD, ← e, hj]
    rfl
/-- Part of a row as a source. -/
theorem Srcs.part {α : Type} {enc : α → List Value} {size : Nat} (hs : ∀ x, (enc x).length = size) (h1 : ∀ x, ∀ u ∈ enc x, u.oneCell' = true) {w : World} {base b n cap : Nat} {e : TypeId} {l : List α} (h : w.ownsRow base e size (.slice (some ⟨b, 0, none⟩) n cap) n (l.flatMap enc)) (hn : l.length = n) (i m o c : Nat) (him : i + m ≤ n) (ho : m = 0 ∨ o = i * size) :
    Srcs w size (.slice (some ⟨b, o, none⟩) m c) m (((l.drop i).take m).flatMap enc) :=
  .inr ⟨_, c, rfl, by rw [flatMap_len enc size hs, List.length_take, List.length_drop]; congr 1; omega, own_news hs h i m o ho, oneCells h1 _⟩
end Go.Proofs.YtomceddfbfpjjaaGreatDoor

namespace Go.Proofs.YtomceddfbfpjjaaGreatDoor
open Go Go.RowKit

theorem step_append_own {P : Program} {ops : Array Oper} {o : Oper} {a : Act} {w : World} {K : Act → World → Prop} {Q : Exit → Act → World → Prop} {E : Prop}
    (hg : o.guard = none) (s x : Operand) (t : TypeId) (hop : o.op = Op.call { callee := Callee.builtin Builtin.append, args := #[s, x], argTypes := #[t, t] })
    (base : Nat) (e : TypeId) (i : TypeInfo) (z : Value) (size bytes : Nat) (h1 : P.underlying t = some (.slice e)) (h2 : P.info? e = some i) (h3 : i.zero = some z) (h4 : i.size = size) (h5 : i.bytes = bytes) (h6 : z.cells.size = size) (h7 : 0 < size)
    (v : Value) (k : Nat) (xs : List Value) (hs : a.eval s = v) (hown : w.ownsRow base e size v k xs) (ad : Addr) (m c : Nat) (news : List Value) (hx : a.eval x = .slice (some ad) m c) (hn : news.length = m * size)
    (hc : ∀ j u, news[j]? = some u → w.cell? (ad.add j) = some u) (h1c : ∀ u ∈ news, u.oneCell' = true) (b1 : k + m ≤ maxLen) (b2 : (k + m) * bytes ≤ 140737488355328) (b3 : base ≤ w.heap.size)
    (hK : ∀ v' w', w'.ownsRow base e size v' (k + m) (xs ++ news) → w.grownBy w' v.ownBlock → K (a.put o.dst v') w') :
    if Region.wanted o (yielded ops a.tmps) = true then Oper.wp P o a w K Q else E := by
  have hw : Region.wanted o (yielded ops a.tmps) = true := by simp [Region.wanted, hg]
  rw [if_pos hw]
  obtain ⟨v', w', hrun, r1, r2, r3⟩ := run_append_own (P := P) w base t o.type e i z size bytes h1 h2 h3 h4 h5 h6 h7 v k xs hown ad m c news hn hc h1c b1 b2 b3
  unfold Oper.wp
  simp [execOp, hop, resolve, invoke, builtin, hs, hx, hrun, Result.andThen]
  exact hK v' w' r1 r2

end Go.Proofs.YtomceddfbfpjjaaGreatDoor
