/- path.Clean: the walk. path.Join, path.In, path.Strip by their contracts. -/
import Derived.Test.YtomceddfbfpjjaaGreatDoorKRanged
import Derived.BigRegionIn
import Derived.Test.YtomceddfbfpjjaaGreatDoorKPathed
namespace Go.Proofs.YtomceddfbfpjjaaGreatDoor
open Go Go.RowKit Go.Shelf
attribute [local go_sem] Oper.semAt_some

theorem CleanPost.err {E : Nat → Addr} {s : ByteArray} {w w' : World} {k : Nat} (h : Hid (cleanE (bl s) = k + 1)) (hb : Below w.heap.size w w') : CleanPost E s w (.returned (.tuple #[.string ⟨#[]⟩, sentV E k])) w' :=
  ⟨⟨⟨#[]⟩, by rw [h.out]; rfl, by show _ = _; unfold cleanT; rw [h.out]; rfl⟩, hb⟩
theorem CleanPost.ok {E : Nat → Addr} {s x : ByteArray} {w w' : World} (h : Hid (cleanE (bl s) = 0)) (hx : Hid (bl x = [47].intercalate (cleanW [] (cutL 47 (bl s))).2)) (hb : Below w.heap.size w w') : CleanPost E s w (.returned (.tuple #[.string x, .nilIface])) w' :=
  ⟨⟨x, by rw [h.out]; rfl, by show _ = _; unfold cleanT; rw [h.out, if_pos rfl]; exact hx.out⟩, hb⟩

end Go.Proofs.YtomceddfbfpjjaaGreatDoor

namespace Go.Proofs.YtomceddfbfpjjaaGreatDoor
open Go Go.RowKit

/-- What path.Strip hands back. -/
def StripPost (E : Nat → Addr) (s : ByteArray) (n : Int) (w : World) (e : Ending) (w' : World) : Prop :=
  (∃ x : ByteArray, e = .returned (.tuple #[.string x, errV E (stripE (bl s) n)]) ∧ Hid (bl x = stripT (bl s) n)) ∧ Below w.heap.size w w'
theorem StripPost.err {E : Nat → Addr} {s : ByteArray} {n : Int} {w w' : World} {k : Nat} (h : Hid (stripE (bl s) n = k + 1)) (hb : Below w.heap.size w w') : StripPost E s n w (.returned (.tuple #[.string ⟨#[]⟩, sentV E k])) w' :=
  ⟨⟨⟨#[]⟩, by rw [h.out]; rfl, by show _ = _; unfold stripT; rw [h.out]; rfl⟩, hb⟩
structure SEnv (E : Nat → Addr) (w : World) : Prop where
  clean : CEnv E w
  bound : w.cell? ⟨1, 0, none⟩ = some (sentV E 1)
theorem SEnv.ext {E : Nat → Addr} {w w' : World} (h : SEnv E w) (hb : Below w.heap.size w w') : SEnv E w' :=
  ⟨h.clean.ext hb, by rw [hb.cell (p := ⟨1, 0, none⟩) (lt_of_cell h.bound)]; exact h.bound⟩

/-- strings.Join of what is left of a row. -/
theorem joinRest_any {W : World} {b n : Nat} {zs : List ByteArray} (hn : n = zs.length) (h6 : n ≤ 6) (hz : ∀ z ∈ zs, z.size ≤ 1000000) (hc : StrsAt W b zs) (k : Nat) (hk : k < n) (o : Nat) (ho : o = k) (m : Nat) (hm : m = n - k) (c : Nat) (hcap : m ≤ c) :
    Calls Tryz.prog 194 #[.slice (some ⟨b, o, none⟩) m c, .string ⟨#[47]⟩] W fun e w' => (∃ x : ByteArray, e = .returned (.string x) ∧ Hid (bl x = [47].intercalate ((zs.drop k).map bl))) ∧ Below W.heap.size W w' := by
  subst ho hm
  have hl : (zs.drop o).length = n - o := by rw [List.length_drop, hn]
  have hlen : (Lib.join ((zs.drop o).map (·.data.toList)) (⟨#[47]⟩ : ByteArray).data.toList).length ≤ 140737488355328 := by
    have := join_len (zs.drop o) (fun z hz2 => hz z (List.mem_of_mem_drop hz2))
    show ([47].intercalate ((zs.drop o).map bl) : List UInt8).length ≤ _
    rw [hl] at this
    omega
  have C := Tryz.strings_Join b o c (zs.drop o) ⟨#[47]⟩ W (fun j x hx => by
    rw [List.getElem?_drop] at hx
    obtain ⟨hj, rfl⟩ := List.getElem?_eq_some_iff.1 hx
    exact hc.2 (o + j) hj) hc.1 (by rw [hl]; omega) (by rw [hl]; omega) hlen
  rw [hl] at C
  refine C.mono ?_
  rintro e w' ⟨rfl, hb⟩
  exact ⟨⟨_, rfl, by show [47].intercalate ((zs.drop o).map (·.data.toList)) = _; rfl⟩, hb⟩

set_option maxHeartbeats 400000 in
set_option maxRecDepth 100000 in
theorem pathStrip_any {E : Nat → Addr} (s : ByteArray) (n : Int) (w : World) (hs : s.size ≤ 1000000) (hn : (Lit.int .i64 n).wf = true) (hE : SEnv E w) :
    Calls Tryz.prog 175 #[.string s, .int .i64 n] w (StripPost E s n w) := by
  have C := Lib.hid (pathParts_any s w hs hE.clean.path)
  have HE := Lib.hid hE
  clear hE
  go_enter Tryz.func175, Tryz.ntmps175
  go_wp2_with fail
  refine C.out.mono ?_
  clear C
  intro e w1 h
  unfold PartsPost at h
  obtain ⟨⟨zs, b, m, rfl, HZ, hm, h6, HS, HA, HR⟩ | ⟨k, rfl, HR⟩, hb⟩ := h
  · have e1 := HE.out.ext hb
    have HL : Hid ((cutL 47 (bl s)).length = m) := by show _ = _; rw [← HZ.out, List.length_map, hm]
    by_cases h0 : n < 0
    · have HX : Hid (stripE (bl s) n = 1 + 1) := by show _ = _; unfold stripE; rw [if_pos HR.out, if_pos h0]
      have c1 := e1.bound
      clear e1
      go_wp2_with fail
      go_quiet (fail)
      go_wp2_with fail
      go_ret2
      exact StripPost.err HX (hb.trans ((below_drewN _ _ _).mono hb.size))
    · by_cases h1 : (m : Int) ≤ n
      · have HX : Hid (stripE (bl s) n = 2 + 1) := by show _ = _; unfold stripE; rw [if_pos HR.out, if_neg h0, HL.out, if_pos h1]
        have c1 := e1.clean.shape
        clear e1
        go_wp2_with fail
        go_quiet (fail)
        go_wp2_with fail
        go_ret2
        exact StripPost.err HX (hb.trans ((below_drewN _ _ _).mono hb.size))
      · obtain ⟨k, rfl⟩ : ∃ k : Nat, n = k := ⟨n.toNat, by omega⟩
        have HX : Hid (stripE (bl s) (k : Int) = 0) := by show _ = _; unfold stripE; rw [if_pos HR.out, if_neg h0, HL.out, if_neg h1]
        have hz : ∀ z ∈ zs, z.size ≤ 1000000 := fun z hz => by have := HS.out z hz; omega
        have C := Lib.hid (fun o ho m' hm' c hc => joinRest_any (W := w1) (b := b) hm h6 hz HA.out k (by omega) o ho m' hm' c hc)
        have HM := Lib.hid hm
        clear e1 hm hz
        go_wp2_with fail
        refine (C.out k rfl (m - k) rfl (m - k) (Nat.le_refl _)).mono ?_
        clear C
        rintro e w2 ⟨⟨x, rfl, HJ⟩, hb2⟩
        go_wp2_with fail
        go_ret2
        refine ⟨⟨x, by rw [HX.out]; rfl, ?_⟩, hb.trans (hb2.mono hb.size)⟩
        show _ = _
        unfold stripT
        rw [HX.out, if_pos rfl, HJ.out, List.map_drop, HZ.out]; rfl
  · have HX : Hid (stripE (bl s) n = k + 1) := by show _ = _; unfold stripE; rw [if_neg (by rw [HR.out]; omega), HR.out]
    go_wp2_with fail
    go_ret2
    exact StripPost.err HX hb
end Go.Proofs.YtomceddfbfpjjaaGreatDoor
