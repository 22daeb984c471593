/- path.Join, path.In, path.Strip by their contracts. -/
import Derived.Test.YtkplekkldkmdhaaDoorCleanOf
namespace Go.Proofs.YtkplekkldkmdhaaDoor
open Go Go.RowKit

theorem blAdd (a b : ByteArray) : bl (a ++ b) = bl a ++ bl b := by
  show (a ++ b).data.toList = a.data.toList ++ b.data.toList
  rw [ByteArray.data_append, Array.toList_append]
/-- What path.Join hands back. -/
def JoinPost (E : Nat → Addr) (d s : ByteArray) (w : World) (e : Ending) (w' : World) : Prop :=
  (∃ x : ByteArray, e = .returned (.tuple #[.string x, errV E (cleanE (joinS (bl d) (bl s)))]) ∧ Hid (bl x = cleanT (joinS (bl d) (bl s)))) ∧ Below w.heap.size w w'

set_option maxRecDepth 100000 in
theorem pathJoin_any {E : Nat → Addr} (d s : ByteArray) (w : World) (hd : d.size ≤ 10000) (hs : s.size ≤ 10000) (hE : CEnv E w) :
    Calls Tryd.prog 37 #[.string d, .string s] w (JoinPost E d s w) := by
  by_cases h : d.toList = []
  · have g : d.toList.isEmpty = true := by rw [h]; rfl
    have HJ : Hid (joinS (bl d) (bl s) = bl s) := by show _ = _; unfold joinS; rw [if_pos (by rw [← toList_bl]; exact h)]
    have C := Lib.hid (clean_any s w (by omega) hE)
    clear h hE
    go_enter Tryd.func37, Tryd.ntmps37
    go_wp2_with fail
    refine C.out.mono ?_
    clear C
    rintro e w1 ⟨⟨x, rfl, HX⟩, hb⟩
    go_wp2_with fail
    go_ret2
    exact ⟨⟨x, by rw [HJ.out]; rfl, by show _ = _; rw [HJ.out]; exact HX.out⟩, hb⟩
  · have g : d.toList.isEmpty = false := by
      cases h2 : d.toList with
      | nil => exact absurd h2 h
      | cons _ _ => rfl
    have HJ : Hid (joinS (bl d) (bl s) = bl (d ++ ⟨#[47]⟩ ++ s)) := by
      show _ = _
      unfold joinS; rw [if_neg (by rw [← toList_bl]; exact h), blAdd, blAdd, List.append_assoc]; rfl
    have hsz : (d ++ ⟨#[47]⟩ ++ s).size ≤ 1000000 := by
      have e1 := congrArg List.length (blAdd (d ++ ⟨#[47]⟩) s)
      have e2 := congrArg List.length (blAdd d ⟨#[47]⟩)
      rw [List.length_append, bl_length, bl_length, bl_length] at e1 e2
      have e : (⟨#[47]⟩ : ByteArray).size = 1 := rfl
      omega
    have C := Lib.hid (clean_any (d ++ ⟨#[47]⟩ ++ s) w hsz hE)
    clear h hE
    go_enter Tryd.func37, Tryd.ntmps37
    go_wp2_with fail
    refine C.out.mono ?_
    clear C
    rintro e w1 ⟨⟨x, rfl, HX⟩, hb⟩
    go_wp2_with fail
    go_ret2
    exact ⟨⟨x, by rw [HJ.out]; rfl, by show _ = _; rw [HJ.out]; exact HX.out⟩, hb⟩

/-- Is a path in a directory? -/
def inB (s d : List UInt8) : Bool := decide (partsE s = 0) && (decide (d = []) || (decide (partsE d = 0) && Lib.hasPrefix s (d ++ [47])))

set_option maxHeartbeats 400000 in
set_option maxRecDepth 100000 in
theorem pathIn_any {E : Nat → Addr} (s d : ByteArray) (w : World) (hs : s.size ≤ 10000) (hd : d.size ≤ 10000) (hE : PEnv E w) :
    Calls Tryd.prog 38 #[.string s, .string d] w fun e w' => e = .returned (.bool (inB (bl s) (bl d))) ∧ Below w.heap.size w w' := by
  have C := Lib.hid (pathCheck_any s w (by omega) hE)
  have HE := Lib.hid hE
  have HH := Lib.hid (fun w' => Tryd.strings_HasPrefix s (d ++ ⟨#[47]⟩) w')
  have HD : Hid (Lib.hasPrefix s.data.toList (d ++ ⟨#[47]⟩).data.toList = Lib.hasPrefix (bl s) (bl d ++ [47])) := by show Lib.hasPrefix (bl s) (bl (d ++ ⟨#[47]⟩)) = _; rw [blAdd]; rfl
  clear hE
  cases hc : partsE (bl s) with
  | succ c =>
    have HX : Hid (inB (bl s) (bl d) = false) := by show _ = _; unfold inB; rw [hc]; rfl
    go_enter Tryd.func38, Tryd.ntmps38
    go_wp2_with fail
    refine C.out.mono ?_
    clear C
    rintro e w1 ⟨rfl, hb⟩
    rw [hc, show errV E (c + 1) = sentV E c from rfl]
    clear hc
    go_wp2_with fail
    go_ret
    exact ⟨by rw [HX.out]; rfl, hb⟩
  | zero =>
    by_cases h : d.toList = []
    · have g : d.toList.isEmpty = true := by rw [h]; rfl
      have HX : Hid (inB (bl s) (bl d) = true) := by show _ = _; unfold inB; rw [hc, decide_eq_true (show bl d = [] by rw [← toList_bl]; exact h)]; rfl
      clear h
      go_enter Tryd.func38, Tryd.ntmps38
      go_wp2_with fail
      refine C.out.mono ?_
      clear C
      rintro e w1 ⟨rfl, hb⟩
      rw [hc, show errV E 0 = .nilIface from rfl]
      clear hc
      go_wp2_with fail
      go_ret
      exact ⟨by rw [HX.out]; rfl, hb⟩
    · have g : d.toList.isEmpty = false := by
        cases h2 : d.toList with
        | nil => exact absurd h2 h
        | cons _ _ => rfl
      have HX : Hid (inB (bl s) (bl d) = (decide (partsE (bl d) = 0) && Lib.hasPrefix (bl s) (bl d ++ [47]))) := by
        show _ = _; unfold inB; rw [hc, decide_eq_false (show ¬ bl d = [] by rw [← toList_bl]; exact h)]; rfl
      clear h
      go_enter Tryd.func38, Tryd.ntmps38
      go_wp2_with fail
      refine C.out.mono ?_
      clear C
      rintro e w1 ⟨rfl, hb⟩
      rw [hc, show errV E 0 = .nilIface from rfl]
      clear hc
      have C := Lib.hid (pathCheck_any d w1 (by omega) (HE.out.ext hb))
      go_wp2_with fail
      refine C.out.mono ?_
      clear C
      rintro e w2 ⟨rfl, hb2⟩
      cases hc : partsE (bl d) with
      | succ c =>
        rw [show errV E (c + 1) = sentV E c from rfl]
        have HY : Hid (inB (bl s) (bl d) = false) := by show _ = _; rw [HX.out, hc]; rfl
        clear hc
        go_wp2_with fail
        go_ret
        exact ⟨by rw [HY.out]; rfl, hb.trans (hb2.mono hb.size)⟩
      | zero =>
        rw [show errV E 0 = .nilIface from rfl]
        have HY : Hid (inB (bl s) (bl d) = Lib.hasPrefix (bl s) (bl d ++ [47])) := by show _ = _; rw [HX.out, hc]; rfl
        clear hc
        go_wp2_with fail
        refine (HH.out w2).mono ?_
        rintro e w3 ⟨rfl, rfl⟩
        rw [HD.out]
        go_wp2_with fail
        go_ret
        exact ⟨by rw [HY.out]; rfl, hb.trans (hb2.mono hb.size)⟩

/-- What path.Strip hands back. -/
def StripPost (E : Nat → Addr) (s : ByteArray) (n : Int) (w : World) (e : Ending) (w' : World) : Prop :=
  (∃ x : ByteArray, e = .returned (.tuple #[.string x, errV E (stripE (bl s) n)]) ∧ Hid (bl x = stripT (bl s) n)) ∧ Below w.heap.size w w'
theorem StripPost.err {E : Nat → Addr} {s : ByteArray} {n : Int} {w w' : World} {k : Nat} (h : Hid (stripE (bl s) n = k + 1)) (hb : Below w.heap.size w w') : StripPost E s n w (.returned (.tuple #[.string ⟨#[]⟩, sentV E k])) w' :=
  ⟨⟨⟨#[]⟩, by rw [h.out]; rfl, by show _ = _; unfold stripT; rw [h.out]; rfl⟩, hb⟩
structure SEnv (E : Nat → Addr) (w : World) : Prop where
  clean : CEnv E w
  bound : w.cell? ⟨1, 0, none⟩ = some (sentV E 1)
theorem SEnv.ext {E : Nat → Addr} {w w' : World} (h : SEnv E w) (hb : Below w.heap.size w w') : SEnv E w' :=
  ⟨h.clean.ext hb, by rw [hb.cell (p := ⟨1, 0, none⟩) (lt_of_cell h.bound)]; exact h.bound⟩

/-- strings.Join of what is left of a row. -/
theorem joinRest_any {W : World} {b n : Nat} {zs : List ByteArray} (hn : n = zs.length) (h6 : n ≤ 6) (hz : ∀ z ∈ zs, z.size ≤ 1000000) (hc : StrsAt W b zs) (k : Nat) (hk : k < n) (o : Nat) (ho : o = k) (m : Nat) (hm : m = n - k) (c : Nat) (hcap : m ≤ c) :
    Calls Tryd.prog 70 #[.slice (some ⟨b, o, none⟩) m c, .string ⟨#[47]⟩] W fun e w' => (∃ x : ByteArray, e = .returned (.string x) ∧ Hid (bl x = [47].intercalate ((zs.drop k).map bl))) ∧ Below W.heap.size W w' := by
  subst ho hm
  have hl : (zs.drop o).length = n - o := by rw [List.length_drop, hn]
  have hlen : (Lib.join ((zs.drop o).map (·.data.toList)) (⟨#[47]⟩ : ByteArray).data.toList).length ≤ 140737488355328 := by
    have := join_len (zs.drop o) (fun z hz2 => hz z (List.mem_of_mem_drop hz2))
    show ([47].intercalate ((zs.drop o).map bl) : List UInt8).length ≤ _
    rw [hl] at this
    omega
  have C := Tryd.strings_Join b o c (zs.drop o) ⟨#[47]⟩ W (fun j x hx => by
    rw [List.getElem?_drop] at hx
    obtain ⟨hj, rfl⟩ := List.getElem?_eq_some_iff.1 hx
    exact hc.2 (o + j) hj) hc.1 (by rw [hl]; omega) (by rw [hl]; omega) hlen
  rw [hl] at C
  refine C.mono ?_
  rintro e w' ⟨rfl, hb⟩
  exact ⟨⟨_, rfl, by show [47].intercalate ((zs.drop o).map (·.data.toList)) = _; rfl⟩, hb⟩

set_option maxHeartbeats 400000 in
set_option maxRecDepth 100000 in
theorem pathStrip_any {E : Nat → Addr} (s : ByteArray) (n : Int) (w : World) (hs : s.size ≤ 1000000) (hn : (Lit.int .i64 n).wf = true) (hE : SEnv E w) :
    Calls Tryd.prog 33 #[.string s, .int .i64 n] w (StripPost E s n w) := by
  have C := Lib.hid (pathParts_any s w hs hE.clean.path)
  have HE := Lib.hid hE
  clear hE
  go_enter Tryd.func33, Tryd.ntmps33
  go_wp2_with fail
  refine C.out.mono ?_
  clear C
  intro e w1 h
  unfold PartsPost at h
  obtain ⟨⟨zs, b, m, rfl, HZ, hm, h6, HS, HA, HR⟩ | ⟨k, rfl, HR⟩, hb⟩ := h
  · have e1 := HE.out.ext hb
    have HL : Hid ((cutL 47 (bl s)).length = m) := by show _ = _; rw [← HZ.out, List.length_map, hm]
    by_cases h0 : n < 0
    · have HX : Hid (stripE (bl s) n = 1 + 1) := by show _ = _; unfold stripE; rw [if_pos HR.out, if_pos h0]
      have c1 := e1.bound
      clear e1
      go_wp2_with fail
      go_quiet (fail)
      go_wp2_with fail
      go_ret2
      exact StripPost.err HX (hb.trans ((below_drewN _ _ _).mono hb.size))
    · by_cases h1 : (m : Int) ≤ n
      · have HX : Hid (stripE (bl s) n = 2 + 1) := by show _ = _; unfold stripE; rw [if_pos HR.out, if_neg h0, HL.out, if_pos h1]
        have c1 := e1.clean.shape
        clear e1
        go_wp2_with fail
        go_quiet (fail)
        go_wp2_with fail
        go_ret2
        exact StripPost.err HX (hb.trans ((below_drewN _ _ _).mono hb.size))
      · obtain ⟨k, rfl⟩ : ∃ k : Nat, n = k := ⟨n.toNat, by omega⟩
        have HX : Hid (stripE (bl s) (k : Int) = 0) := by show _ = _; unfold stripE; rw [if_pos HR.out, if_neg h0, HL.out, if_neg h1]
        have hz : ∀ z ∈ zs, z.size ≤ 1000000 := fun z hz => by have := HS.out z hz; omega
        have C := Lib.hid (fun o ho m' hm' c hc => joinRest_any (W := w1) (b := b) hm h6 hz HA.out k (by omega) o ho m' hm' c hc)
        have HM := Lib.hid hm
        clear e1 hm hz
        go_wp2_with fail
        refine (C.out k rfl (m - k) rfl (m - k) (Nat.le_refl _)).mono ?_
        clear C
        rintro e w2 ⟨⟨x, rfl, HJ⟩, hb2⟩
        go_wp2_with fail
        go_ret2
        refine ⟨⟨x, by rw [HX.out]; rfl, ?_⟩, hb.trans (hb2.mono hb.size)⟩
        show _ = _
        unfold stripT
        rw [HX.out, if_pos rfl, HJ.out, List.map_drop, HZ.out]; rfl
  · have HX : Hid (stripE (bl s) n = k + 1) := by show _ = _; unfold stripE; rw [if_neg (by rw [HR.out]; omega), HR.out]
    go_wp2_with fail
    go_ret2
    exact StripPost.err HX hb
end Go.Proofs.YtkplekkldkmdhaaDoor
