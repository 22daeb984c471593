/- path.Part, path.Parts, path.Check by their contracts. path.In by its contract. -/
import Derived.Test.YtomceddfbfpjjaaGreatDoorKPlainly
import Derived.Test.YtomceddfbfpjjaaGreatDoorKShelf
import Derived.Test.YtomceddfbfpjjaaGreatDoorKErrors
import Derived.Test.YtomceddfbfpjjaaGreatDoorKRowed
import Derived.Shelf.Strings.SlTrimAscii
import Derived.IntWalk
namespace Go.Proofs.YtomceddfbfpjjaaGreatDoor
open Go Go.RowKit

theorem toList_bl (s : ByteArray) : s.toList = bl s := Lib.toList_data s
theorem partB_eq {s : ByteArray} (h1 : ¬ s.toList = []) (h2 : s.size ≤ 12) (h3 : ¬ s.toList = [46]) (h4 : ¬ s.toList = [46, 46]) : partB (bl s) = (bl s).all okB := by
  rw [toList_bl] at h1 h3 h4
  unfold partB
  have e : decide ((bl s).length ≤ 12) = true := by rw [bl_length]; exact decide_eq_true h2
  rw [e, beq_eq_false_iff_ne.2 h1, beq_eq_false_iff_ne.2 h3, beq_eq_false_iff_ne.2 h4]; rfl
theorem part_trim (s : ByteArray) : (Lib.trimS s.data.toList lets).isEmpty = (bl s).all okB := by
  cases h : (bl s).all okB with
  | true => rw [show Lib.trimS s.data.toList lets = [] from (trimS_nil _).2 h]; rfl
  | false =>
    cases h2 : Lib.trimS s.data.toList lets with
    | nil => rw [show (bl s).all okB = true from (trimS_nil _).1 h2] at h; cases h
    | cons _ _ => rfl

set_option maxRecDepth 100000 in
theorem part_any (s : ByteArray) (w : World) (hs : s.size ≤ 281474976710656) :
    Calls Tryz.prog 59 #[.string s] w fun e w' => e = .returned (.bool (partB (bl s))) ∧ Below w.heap.size w w' := by
  go_enter Tryz.func59, Tryz.ntmps59
  go_wp2_with fail
  all_goals try (go_ret; refine ⟨?_, Below.refl _ _⟩)
  all_goals try (rename_i h; rw [toList_bl] at h; rw [h]; rfl)
  · have h1 : ¬ s.toList = [] := by assumption
    have h2 : (s.size : Int) ≤ 12 := by assumption
    have h3 : ¬ s.toList = [46] := by assumption
    have h4 : ¬ s.toList = [46, 46] := by assumption
    have HP := Lib.hid (partB_eq h1 (by omega) h3 h4)
    clear h1 h2 h3 h4
    refine (Any.strings_Trim_laid Tryz.lays160 (by kernel_rfl) s _ w (by omega) (by decide) (ascii_of_all (by decide))).mono ?_
    rintro e w1 ⟨rfl, hb⟩
    have HT := Lib.hid (part_trim s)
    go_wp2_with fail
    go_ret
    refine ⟨?_, hb⟩
    have g1 : s.toList.isEmpty = false := by cases h : s.toList with
      | nil => exact absurd h (by assumption)
      | cons _ _ => rfl
    have g3 : (s.toList == [46]) = false := beq_eq_false_iff_ne.2 (by assumption)
    have g4 : (s.toList == [46, 46]) = false := beq_eq_false_iff_ne.2 (by assumption)
    have HT2 := HT.out
    rw [HP.out, ← HT2]
    show Ending.returned (Value.bool (!s.toList.isEmpty && !s.toList == [46] && !s.toList == [46, 46] && _)) = _
    rw [g1, g3, g4]; rfl
  · rename_i h
    have e : decide ((bl s).length ≤ 12) = false := by rw [bl_length]; exact decide_eq_false (by omega)
    unfold partB
    rw [e]; simp
set_option maxRecDepth 100000 in
theorem notPart_any (s : ByteArray) (w : World) (hs : s.size ≤ 281474976710656) :
    Calls Tryz.prog 148 #[.string s] w fun e w' => e = .returned (.bool (!partB (bl s))) ∧ Below w.heap.size w w' := by
  go_enter Tryz.func148, Tryz.ntmps148
  go_wp2_with fail
  refine (part_any s w hs).mono ?_
  rintro e w1 ⟨rfl, hb⟩
  go_wp2_with fail
  go_ret
  exact ⟨rfl, hb⟩

/-- The strings of a row lie at block b from its beginning. -/
def StrsAt (w : World) (b : Nat) (zs : List ByteArray) : Prop := b < w.heap.size ∧ ∀ j, (h : j < zs.length) → w.cell? ⟨b, j, none⟩ = some (.string zs[j])
theorem StrsAt.ext {w w' : World} {b : Nat} {zs : List ByteArray} (h : StrsAt w b zs) (hb : Below w.heap.size w w') : StrsAt w' b zs :=
  ⟨Nat.lt_of_lt_of_le h.1 hb.size, fun j hj => (hb.cell (p := ⟨b, j, none⟩) h.1).trans (h.2 j hj)⟩

/-- What slices.IndexFunc hands back: the place of the first that is no part. -/
def IxPost (zs : List ByteArray) (w : World) (e : Ending) (w' : World) : Prop :=
  ((∃ k : Nat, e = .returned (.int .i64 k) ∧ Hid (zs.all (fun z => partB (bl z)) = false)) ∨ (e = .returned (.int .i64 (-1)) ∧ Hid (zs.all (fun z => partB (bl z)) = true))) ∧ Below w.heap.size w w'

set_option maxHeartbeats 1000000 in
set_option maxRecDepth 100000 in
theorem indexFunc_any (b n c : Nat) (zs : List ByteArray) (w : World) (hn : n = zs.length) (hz : zs.length ≤ 281474976710656) (hs : ∀ z ∈ zs, z.size ≤ 281474976710656) (hc : StrsAt w b zs) :
    Calls Tryz.prog 169 #[.slice (some ⟨b, 0, none⟩) n c, .func (.func 148) #[] #[]] w (IxPost zs w) := by
  subst hn
  have HC := Lib.hid hc
  have HS := Lib.hid hs
  clear hc hs
  go_enter Tryz.func169, Tryz.ntmps169
  go_wp2_with fail
  go_loopw [5, 8] (fun _ i w1 => ∃ k : Nat, k ≤ zs.length ∧ i = .int .i64 k ∧ Hid (∀ j, (h : j < zs.length) → j < k → partB (bl zs[j]) = true) ∧ Below w.heap.size w w1) (fun _ i _ => zs.length - (intOf i).toNat)
  case atStart => exact ⟨0, Nat.zero_le _, rfl, fun j _ h => absurd h (Nat.not_lt_zero _), Below.refl _ _⟩
  case round =>
    obtain ⟨k, hk, rfl, HA, hb⟩ := hrel
    by_cases hlt : k < zs.length
    · have cl := (HC.out.ext hb).2 k hlt
      have sz := HS.out zs[k] (List.getElem_mem hlt)
      have HY := Lib.hid (show zs[k] = zs[k] from rfl)
      generalize hy : zs[k] = y at cl sz
      have HZ := Lib.hid hy
      clear hy
      go_wp2_with fail
      refine (notPart_any y _ sz).mono ?_
      rintro e w2 ⟨rfl, hb2⟩
      cases hp : partB (bl y) with
      | true =>
        have H2 : Hid (∀ j, (h : j < zs.length) → j < k + 1 → partB (bl zs[j]) = true) := fun j h hj => by
          by_cases e : j = k
          · subst e; rw [HZ.out]; exact hp
          · exact HA.out j h (by omega)
        clear HA hp HY HZ
        go_wp2_with fail
        go_roundw
        case rel => exact ⟨k + 1, by omega, by go_num, H2, hb.trans (hb2.mono hb.size)⟩
        case measure => simp [intOf]; omega
      | false =>
        have HF : Hid (zs.all (fun z => partB (bl z)) = false) := by
          refine List.all_eq_false.2 ⟨zs[k], List.getElem_mem hlt, ?_⟩
          rw [HZ.out, hp]; decide
        clear HA hp HY HZ
        go_wp2_with fail
        go_ret
        exact ⟨.inl ⟨k, rfl, HF⟩, hb.trans (hb2.mono hb.size)⟩
    · have HT : Hid (zs.all (fun z => partB (bl z)) = true) := by
        refine List.all_eq_true.2 fun x hx => ?_
        obtain ⟨j, hj, rfl⟩ := List.getElem_of_mem hx
        exact HA.out j hj (by omega)
      have hkk : k = zs.length := by omega
      subst hkk
      clear HA
      go_wp2_with fail
      go_ret
      exact ⟨.inr ⟨rfl, HT⟩, hb⟩

set_option maxRecDepth 100000 in
theorem containsFunc_any (b n c : Nat) (zs : List ByteArray) (w : World) (hn : n = zs.length) (hz : zs.length ≤ 281474976710656) (hs : ∀ z ∈ zs, z.size ≤ 281474976710656) (hc : StrsAt w b zs) :
    Calls Tryz.prog 147 #[.slice (some ⟨b, 0, none⟩) n c, .func (.func 148) #[] #[]] w fun e w' => e = .returned (.bool (!zs.all (fun z => partB (bl z)))) ∧ Below w.heap.size w w' := by
  have C := Lib.hid (indexFunc_any b n c zs w hn hz hs hc)
  clear hc hs hz
  have HN := Lib.hid hn
  clear hn
  go_enter Tryz.func147, Tryz.ntmps147
  go_wp2_with fail
  refine C.out.mono ?_
  clear C
  intro e w1 h
  unfold IxPost at h
  obtain ⟨⟨k, rfl, H⟩ | ⟨rfl, H⟩, hb⟩ := h
  · go_wp2_with fail
    go_ret
    exact ⟨by rw [H.out]; rfl, hb⟩
  · go_wp2_with fail
    go_ret
    exact ⟨by rw [H.out]; rfl, hb⟩
/-- An error by its number: 0 is none. -/
def errV (E : Nat → Addr) : Nat → Value
  | 0 => .nilIface
  | k + 1 => sentV E k

structure PEnv (E : Nat → Addr) (w : World) : Prop where
  name : w.cell? ⟨3, 0, none⟩ = some (sentV E 4)
  full : w.cell? ⟨2, 0, none⟩ = some (sentV E 7)
  max : ∃ m, w.cell? ⟨15, 0, none⟩ = some (.int .i64 m)
theorem PEnv.ext {E : Nat → Addr} {w w' : World} (h : PEnv E w) (hb : Below w.heap.size w w') : PEnv E w' := by
  obtain ⟨h1, h2, m, h3⟩ := h
  exact ⟨by rw [hb.cell (p := ⟨3, 0, none⟩) (lt_of_cell h1)]; exact h1, by rw [hb.cell (p := ⟨2, 0, none⟩) (lt_of_cell h2)]; exact h2,
    m, by rw [hb.cell (p := ⟨15, 0, none⟩) (lt_of_cell h3)]; exact h3⟩

theorem split_size (s : ByteArray) (c : UInt8) : ∀ z ∈ Lib.splitB ⟨#[c]⟩ 0 (Lib.countB s ⟨#[c]⟩) s, z.size ≤ s.size := by
  intro z hz
  have h : bl z ∈ cutL c (bl s) := by rw [← splitB_cut]; exact List.mem_map.2 ⟨z, hz, rfl⟩
  have := cutL_size c (bl s) _ h
  rwa [bl_length, bl_length] at this

set_option maxRecDepth 100000 in
/-- strings.Split at one byte. -/
theorem split_any (s : ByteArray) (c : UInt8) (w : World) (hs : s.size ≤ 1000000000) (hm : ∃ m, w.cell? ⟨15, 0, none⟩ = some (.int .i64 m)) :
    Calls Tryz.prog 146 #[.string s, .string ⟨#[c]⟩] w fun e w' =>
      (∃ (zs : List ByteArray) (n : Nat), e = .returned (.slice (some ⟨w.heap.size, 0, none⟩) n n) ∧ Hid (zs.map bl = cutL c (bl s)) ∧ n = zs.length ∧ n ≤ s.size + 1 ∧ Hid (∀ z ∈ zs, z.size ≤ s.size) ∧ Hid (StrsAt w' w.heap.size zs)) ∧ Below w.heap.size w w' := by
  obtain ⟨m, hm⟩ := hm
  refine (Tryz.strings_Split s ⟨#[c]⟩ m w (by omega) hm (Nat.le_refl 1)).mono ?_
  rintro e w' ⟨rfl, rfl⟩
  have hl := Lib.splitB_all ⟨#[c]⟩ (Nat.le_refl 1) 0 _ s rfl
  have hc : Lib.countB s ⟨#[c]⟩ ≤ s.size := Lib.countB_le ⟨#[c]⟩ (Nat.le_refl 1) _ s (Nat.le_refl _)
  refine ⟨⟨Lib.splitB ⟨#[c]⟩ 0 (Lib.countB s ⟨#[c]⟩) s, _, rfl, splitB_cut s c, hl.symm, by omega, split_size s c, ?_, ?_⟩, ?_⟩
  · simp
  · intro j hj
    rw [World.cell?_alloc_at _ _ _ _ rfl]
    simp [hj]
  · exact (Below.refl _ w).alloc (Nat.le_refl _) _

/-- What path.Parts hands back: the pieces, or none and an error. -/
def PartsPost (E : Nat → Addr) (s : ByteArray) (w : World) (e : Ending) (w' : World) : Prop :=
  ((∃ (zs : List ByteArray) (b n : Nat), e = .returned (.tuple #[.slice (some ⟨b, 0, none⟩) n n, .nilIface]) ∧ Hid (zs.map bl = cutL 47 (bl s)) ∧ n = zs.length ∧ n ≤ 6 ∧ Hid (∀ z ∈ zs, z.size ≤ s.size) ∧ Hid (StrsAt w' b zs) ∧ Hid (partsE (bl s) = 0)) ∨
   (∃ k, e = .returned (.tuple #[.slice none 0 0, sentV E k]) ∧ Hid (partsE (bl s) = k + 1))) ∧ Below w.heap.size w w'

set_option maxHeartbeats 1000000 in
set_option maxRecDepth 100000 in
theorem pathParts_any {E : Nat → Addr} (s : ByteArray) (w : World) (hs : s.size ≤ 1000000) (hE : PEnv E w) : Calls Tryz.prog 117 #[.string s] w (PartsPost E s w) := by
  have C := Lib.hid (split_any s 47 w (by omega) hE.max)
  have HE := Lib.hid hE
  clear hE
  go_enter Tryz.func117, Tryz.ntmps117
  go_wp2_with fail
  refine C.out.mono ?_
  rintro e w1 ⟨⟨zs, n, rfl, HZ, hn, hl, HS, HA⟩, hb⟩
  clear C
  have C := Lib.hid (containsFunc_any w.heap.size n n zs w1 hn (by omega) (fun z hz => by have := HS.out z hz; omega) HA.out)
  have HN := Lib.hid hn
  have e1 := HE.out.ext hb
  clear hn
  go_wp2_with fail
  refine C.out.mono ?_
  rintro e w2 ⟨rfl, hb2⟩
  clear C
  have hbb := hb.trans (hb2.mono hb.size)
  have HA2 := Lib.hid (HA.out.ext hb2)
  have e2 := HE.out.ext hbb
  have HP : Hid (zs.all (fun z => partB (bl z)) = (cutL 47 (bl s)).all partB) := by
    show _ = _
    rw [← HZ.out, List.all_map]; rfl
  have HL : Hid (n = (cutL 47 (bl s)).length) := by show _ = _; rw [← HZ.out, List.length_map, HN.out]
  have c1 := e2.name
  have c2 := e2.full
  cases hp : zs.all (fun z => partB (bl z)) with
  | false =>
    have HR : Hid (partsE (bl s) = 4 + 1) := by
      have h := HP.out; rw [hp] at h
      show _ = _
      unfold partsE; rw [← h]; rfl
    clear HP hp e1 e2
    go_wp2_with fail
    go_quiet (fail)
    go_wp2_with fail
    go_ret2
    exact ⟨.inr ⟨4, rfl, HR⟩, hbb.trans ((below_drewN _ _ _).mono hbb.size)⟩
  | true =>
    have h := HP.out
    rw [hp] at h
    by_cases h6 : n ≤ 6
    · have HR : Hid (partsE (bl s) = 0) := by
        show _ = _
        unfold partsE; rw [← h, ← HL.out, if_pos rfl, if_neg (by omega)]
      clear HP hp e1 e2 h
      go_wp2_with fail
      go_ret2
      exact ⟨.inl ⟨zs, w.heap.size, n, rfl, HZ, HN.out, h6, HS, HA2, HR⟩, hbb⟩
    · have HR : Hid (partsE (bl s) = 7 + 1) := by
        show _ = _
        unfold partsE; rw [← h, ← HL.out, if_pos rfl, if_pos (by omega)]
      clear HP hp e1 e2 h
      go_wp2_with fail
      go_quiet (fail)
      go_wp2_with fail
      go_ret2
      exact ⟨.inr ⟨7, rfl, HR⟩, hbb.trans ((below_drewN _ _ _).mono hbb.size)⟩

set_option maxRecDepth 100000 in
theorem pathCheck_any {E : Nat → Addr} (s : ByteArray) (w : World) (hs : s.size ≤ 1000000) (hE : PEnv E w) :
    Calls Tryz.prog 87 #[.string s] w fun e w' => e = .returned (errV E (partsE (bl s))) ∧ Below w.heap.size w w' := by
  have C := Lib.hid (pathParts_any s w hs hE)
  clear hE
  go_enter Tryz.func87, Tryz.ntmps87
  go_wp2_with fail
  refine C.out.mono ?_
  clear C
  intro e w1 h
  unfold PartsPost at h
  obtain ⟨⟨zs, b, n, rfl, _, _, _, _, _, HR⟩ | ⟨k, rfl, HR⟩, hb⟩ := h
  · go_wp2_with fail
    go_ret
    exact ⟨by rw [HR.out]; rfl, hb⟩
  · go_wp2_with fail
    go_ret
    exact ⟨by rw [HR.out]; rfl, hb⟩
end Go.Proofs.YtomceddfbfpjjaaGreatDoor

namespace Go.Proofs.YtomceddfbfpjjaaGreatDoor
open Go Go.RowKit

theorem blAdd (a b : ByteArray) : bl (a ++ b) = bl a ++ bl b := by
  show (a ++ b).data.toList = a.data.toList ++ b.data.toList
  rw [ByteArray.data_append, Array.toList_append]
/-- Is a path in a directory? -/
def inB (s d : List UInt8) : Bool := decide (partsE s = 0) && (decide (d = []) || (decide (partsE d = 0) && Lib.hasPrefix s (d ++ [47])))

set_option maxHeartbeats 400000 in
set_option maxRecDepth 100000 in
theorem pathIn_any {E : Nat → Addr} (s d : ByteArray) (w : World) (hs : s.size ≤ 100000) (hd : d.size ≤ 100000) (hE : PEnv E w) :
    Calls Tryz.prog 142 #[.string s, .string d] w fun e w' => e = .returned (.bool (inB (bl s) (bl d))) ∧ Below w.heap.size w w' := by
  have C := Lib.hid (pathCheck_any s w (by omega) hE)
  have HE := Lib.hid hE
  have HH := Lib.hid (fun w' => Tryz.strings_HasPrefix s (d ++ ⟨#[47]⟩) w')
  have HD : Hid (Lib.hasPrefix s.data.toList (d ++ ⟨#[47]⟩).data.toList = Lib.hasPrefix (bl s) (bl d ++ [47])) := by show Lib.hasPrefix (bl s) (bl (d ++ ⟨#[47]⟩)) = _; rw [blAdd]; rfl
  clear hE
  cases hc : partsE (bl s) with
  | succ c =>
    have HX : Hid (inB (bl s) (bl d) = false) := by show _ = _; unfold inB; rw [hc]; rfl
    go_enter Tryz.func142, Tryz.ntmps142
    go_wp2_with fail
    refine C.out.mono ?_
    clear C
    rintro e w1 ⟨rfl, hb⟩
    rw [hc, show errV E (c + 1) = sentV E c from rfl]
    clear hc
    go_wp2_with fail
    go_ret
    exact ⟨by rw [HX.out]; rfl, hb⟩
  | zero =>
    by_cases h : d.toList = []
    · have g : d.toList.isEmpty = true := by rw [h]; rfl
      have HX : Hid (inB (bl s) (bl d) = true) := by show _ = _; unfold inB; rw [hc, decide_eq_true (show bl d = [] by rw [← toList_bl]; exact h)]; rfl
      clear h
      go_enter Tryz.func142, Tryz.ntmps142
      go_wp2_with fail
      refine C.out.mono ?_
      clear C
      rintro e w1 ⟨rfl, hb⟩
      rw [hc, show errV E 0 = .nilIface from rfl]
      clear hc
      go_wp2_with fail
      go_ret
      exact ⟨by rw [HX.out]; rfl, hb⟩
    · have g : d.toList.isEmpty = false := by
        cases h2 : d.toList with
        | nil => exact absurd h2 h
        | cons _ _ => rfl
      have HX : Hid (inB (bl s) (bl d) = (decide (partsE (bl d) = 0) && Lib.hasPrefix (bl s) (bl d ++ [47]))) := by
        show _ = _; unfold inB; rw [hc, decide_eq_false (show ¬ bl d = [] by rw [← toList_bl]; exact h)]; rfl
      clear h
      go_enter Tryz.func142, Tryz.ntmps142
      go_wp2_with fail
      refine C.out.mono ?_
      clear C
      rintro e w1 ⟨rfl, hb⟩
      rw [hc, show errV E 0 = .nilIface from rfl]
      clear hc
      have C := Lib.hid (pathCheck_any d w1 (by omega) (HE.out.ext hb))
      go_wp2_with fail
      refine C.out.mono ?_
      clear C
      rintro e w2 ⟨rfl, hb2⟩
      cases hc : partsE (bl d) with
      | succ c =>
        rw [show errV E (c + 1) = sentV E c from rfl]
        have HY : Hid (inB (bl s) (bl d) = false) := by show _ = _; rw [HX.out, hc]; rfl
        clear hc
        go_wp2_with fail
        go_ret
        exact ⟨by rw [HY.out]; rfl, hb.trans (hb2.mono hb.size)⟩
      | zero =>
        rw [show errV E 0 = .nilIface from rfl]
        have HY : Hid (inB (bl s) (bl d) = Lib.hasPrefix (bl s) (bl d ++ [47])) := by show _ = _; rw [HX.out, hc]; rfl
        clear hc
        go_wp2_with fail
        refine (HH.out w2).mono ?_
        rintro e w3 ⟨rfl, rfl⟩
        rw [HD.out]
        go_wp2_with fail
        go_ret
        exact ⟨by rw [HY.out]; rfl, hb.trans (hb2.mono hb.size)⟩
end Go.Proofs.YtomceddfbfpjjaaGreatDoor
