/- chandlerylaw3.LockDiffs: the walk. -/
import Derived.Test.YtgchgdkpipanjaaGreatDoorJLockedThree
import Derived.Test.YtgchgdkpipanjaaGreatDoorJLockRead
import Derived.Test.YtgchgdkpipanjaaGreatDoorJLockDiffs3
import Derived.Test.YtgchgdkpipanjaaGreatDoorJLockPlains
import Derived.Test.YtgchgdkpipanjaaGreatDoorJRefLock
namespace Go.Proofs.YtgchgdkpipanjaaGreatDoor
open Go Go.RowKit

theorem lockTx_short : ∀ {l : List WantB}, (∀ x ∈ l, x.name.size ≤ 30 ∧ x.url.size ≤ 120 ∧ x.kind.size ≤ 20) → (lockTx l).length ≤ 201 * l.length
  | [], _ => Nat.le_refl _
  | x :: l, h => by
    have h1 := wantTx_len x
    have h2 := h x (List.mem_cons_self ..)
    have h3 := lockTx_short fun y hy => h y (List.mem_cons_of_mem _ hy)
    unfold lockTx at *
    rw [List.flatMap_cons, List.length_append, List.length_append, List.length_cons]
    simp only [List.length_cons, List.length_nil]
    omega
theorem SOwn.ext {w w' : World} {B : Nat} {v : Value} {zs : List ByteArray} (h : SOwn w B v zs) (hb : Below w.heap.size w w') : SOwn w' B v zs := rowExt h hb
theorem SOwn.shape {w : World} {B : Nat} {v : Value} {zs : List ByteArray} (h : SOwn w B v zs) : ∃ ao cap, v = .slice ao zs.length cap := by
  rcases h.2 with ⟨rfl, h0⟩ | ⟨g, cap, cur, rfl, _⟩
  · exact ⟨none, 0, by rw [h0]⟩
  · exact ⟨_, cap, rfl⟩
theorem SOwn.at {w : World} {B : Nat} {ao : Option Addr} {n cap k : Nat} {zs : List ByteArray} (h : SOwn w B (.slice ao n cap) zs) (hk : k < zs.length) : ∃ b off, ao = some ⟨b, off, none⟩ ∧ ∀ W, Below w.heap.size w W → W.cell? ⟨b, off + k, none⟩ = some (.string zs[k]) := by
  have h2 : w.ownsRow B 9 1 (.slice ao n cap) zs.length (zs.flatMap (fun x => [Value.string x])) := by
    have : ∀ l : List ByteArray, l.flatMap (fun x => [Value.string x]) = l.map Value.string := fun l => by
      induction l with
      | nil => rfl
      | cons x l ih => rw [List.flatMap_cons, ih]; rfl
    rw [this]; exact h
  rcases Row.of_owns (enc := fun x => [Value.string x]) (fun _ => rfl) h2 with ⟨h0, h1⟩ | ⟨g, off, cap', h0, hn, hc, hlt, hcell⟩
  · subst h1; exact absurd hk (Nat.not_lt_zero _)
  · injection h0 with h0 _ _
    refine ⟨g, off, h0, fun W hb => ?_⟩
    have := hcell k hk 0 (by decide)
    rw [Nat.mul_one, Nat.add_zero] at this
    rw [hb.cell (p := ⟨g, off + k, none⟩) hlt]
    exact this
theorem dS_head (c : UInt8) (n : ByteArray) : (dS (c, n)).extract 0 1 = ⟨#[c]⟩ := bl_inj (by rw [bl_ext, bl_dS]; rfl)
theorem cat3 (c : UInt8) (n : ByteArray) : ((({ data := #[c] } : ByteArray) ++ { data := #[32] }) ++ n) = dS (c, n) := bl_inj (by rw [bl_append, bl_append, bl_dS]; rfl)
theorem leftA_mem {a : List WantB} {d : List (UInt8 × ByteArray)} {k : Nat} : ∀ x ∈ leftA a d k, x ∈ a := fun _ hx => (List.mem_filter.1 hx).1
theorem leftA_len (a : List WantB) (d : List (UInt8 × ByteArray)) (k : Nat) : (leftA a d k).length ≤ a.length := List.length_filter_le ..
theorem leftA_zero (a : List WantB) (d : List (UInt8 × ByteArray)) : leftA a d 0 = a := by
  unfold leftA
  rw [List.filter_eq_self]
  intro x _
  rfl
theorem diff_len (a b : List WantB) : (diffGo a b).length ≤ a.length + b.length := by
  induction a, b using diffGo.induct with
  | case1 => unfold diffGo; simp
  | case2 x a ih => unfold diffGo; simp only [List.length_cons, List.length_nil] at *; omega
  | case3 y b ih => unfold diffGo; simp only [List.length_cons, List.length_nil] at *; omega
  | case4 x a y b h ih => unfold diffGo; rw [if_pos h]; simp only [List.length_cons] at *; omega
  | case5 x a y b h1 h2 ih => unfold diffGo; rw [if_neg h1, if_pos h2]; simp only [List.length_cons] at *; omega
  | case6 x a y b h1 h2 ih =>
    unfold diffGo
    rw [if_neg h1, if_neg h2, List.length_append]
    have : (if x = y then [] else [((42 : UInt8), x.name)]).length ≤ 1 := by split <;> simp
    simp only [List.length_cons] at *
    omega
theorem diff_small {a b : List WantB} (ha : a.Pairwise wLt) (hb : b.Pairwise wLt) (h1 : ∀ x ∈ a, x.name.size ≤ 30) (h2 : ∀ x ∈ b, x.name.size ≤ 30) : ∀ p ∈ diffGo a b, p.2.size ≤ 30 ∧ (p.1 = 45 ∨ p.1 = 43 ∨ p.1 = 42) := fun p hp => by
  rcases (diff_says a b ha hb p).1 hp with ⟨h, ⟨x, hx, e⟩, _⟩ | ⟨h, ⟨x, hx, e⟩, _⟩ | ⟨h, x, hx, _, _, e, _⟩
  · exact ⟨by rw [← e]; exact h1 x hx, .inl h⟩
  · exact ⟨by rw [← e]; exact h2 x hx, .inr (.inl h)⟩
  · exact ⟨by rw [← e]; exact h1 x hx, .inr (.inr h)⟩

set_option maxHeartbeats 2000000 in
set_option maxRecDepth 100000 in
theorem lockDiffs_walk {E : Nat → Addr} {w : World} (hR : REnv E w) (va vb : Value) (a b : List WantB) (hva : WArg w va a) (hvb : WArg w vb b) :
    Calls Tryz.prog 3 #[va, vb] w fun e w' => e = .returned (.bool true) ∧ Below w.heap.size w w' := by
  have HA := Lib.hid hva
  have HB := Lib.hid hvb
  have HE := Lib.hid hR
  have CL := Lib.hid (locked_any w hR.1)
  have CWA : Hid (∀ W, Below w.heap.size w W → Calls Tryz.prog 8 #[va] W fun e w' => e = .returned (.bool (longLs a)) ∧ Below W.heap.size W w') := fun W hW => longWants_any va a W (HA.out.ext hW).1
  have CWB : Hid (∀ W, Below w.heap.size w W → Calls Tryz.prog 8 #[vb] W fun e w' => e = .returned (.bool (longLs b)) ∧ Below W.heap.size W w') := fun W hW => longWants_any vb b W (HB.out.ext hW).1
  clear hva hvb hR
  go_enter Tryz.func3, Tryz.ntmps3
  go_wp2_with fail
  refine CL.out.mono ?_
  clear CL
  rintro e w1 ⟨rfl, hb1⟩
  have B1 := Lib.hid hb1
  clear hb1
  go_wp2_with fail
  refine (CWA.out w1 B1.out).mono ?_
  rintro e w2 ⟨rfl, hb2⟩
  have B2 := Lib.hid (B1.out.trans (hb2.mono B1.out.size))
  clear hb2
  cases hla : longLs a with
  | true =>
    clear CWA CWB
    go_wp2_with fail
    go_ret
    exact ⟨rfl, B2.out⟩
  | false =>
  have HLA := Lib.hid (longLs_false hla)
  have HSA := Lib.hid (longLs_small hla)
  clear hla
  go_wp2_with fail
  refine (CWB.out w2 B2.out).mono ?_
  rintro e w3 ⟨rfl, hb3⟩
  have B3 := Lib.hid (B2.out.trans (hb3.mono B2.out.size))
  clear hb3 CWA CWB
  cases hlb : longLs b with
  | true =>
    go_wp2_with fail
    go_ret
    exact ⟨rfl, B3.out⟩
  | false =>
  have HLB := Lib.hid (longLs_false hlb)
  have HSB := Lib.hid (longLs_small hlb)
  clear hlb
  have HNA : Hid (a.length ≤ 10000) := by show _ ≤ _; have := HLA.out.1; omega
  have HNB : Hid (b.length ≤ 10000) := by show _ ≤ _; have := HLB.out.1; omega
  have CA : Hid (∀ W, Below w.heap.size w W → Calls Tryz.prog 9 #[va] W (LockPost E (lockEr a) W)) := fun W hW => lockCheck_any _ a W (HA.out.ext hW).1 (by have := HNA.out; omega) HSA.out (HE.out.ext hW).1.1
  have CB : Hid (∀ W, Below w.heap.size w W → Calls Tryz.prog 9 #[vb] W (LockPost E (lockEr b) W)) := fun W hW => lockCheck_any _ b W (HB.out.ext hW).1 (by have := HNB.out; omega) HSB.out (HE.out.ext hW).1.1
  go_wp2_with fail
  refine (CA.out w3 B3.out).mono ?_
  rintro e w4 ⟨⟨ev, rfl, HI⟩, hb4⟩
  have B4 := Lib.hid (B3.out.trans (hb4.mono B3.out.size))
  clear hb4
  by_cases hz : (lockEr a).code = 0
  case neg =>
    obtain ⟨t, x, rfl⟩ := HI.out.some_inv hz
    clear hz CB CA
    go_wp2_with fail
    go_ret
    exact ⟨rfl, B4.out⟩
  obtain rfl : ev = .nilIface := HI.out.nil0 hz
  have OKA := Lib.hid ((lockOk_iff a).1 hz)
  clear hz HI CA
  go_wp2_with fail
  refine (CB.out w4 B4.out).mono ?_
  rintro e w5 ⟨⟨ev, rfl, HI⟩, hb5⟩
  have B5 := Lib.hid (B4.out.trans (hb5.mono B4.out.size))
  clear hb5
  by_cases hz : (lockEr b).code = 0
  case neg =>
    obtain ⟨t, x, rfl⟩ := HI.out.some_inv hz
    clear hz CB
    go_wp2_with fail
    go_ret
    exact ⟨rfl, B5.out⟩
  obtain rfl : ev = .nilIface := HI.out.nil0 hz
  have OKB := Lib.hid ((lockOk_iff b).1 hz)
  clear hz HI CB
  go_wp2_with fail
  refine (lockText_any va a w5 (HA.out.ext B5.out).1 (by have := HNA.out; omega) HSA.out (HE.out.ext B5.out).1).mono ?_
  rintro e w6 ⟨⟨t, ev, rfl, HT, HI⟩, hb6⟩
  obtain rfl : ev = .nilIface := HI.out.nil0 (by rw [OKA.out.er])
  have HT2 : Hid (readLk (bl t) = (⟨0, none⟩, a)) := by show _ = _; rw [HT.out, if_pos (by rw [OKA.out.er]), readLk_back OKA.out]
  have hts : t.size ≤ 30000 := by
    rw [← bl_length, HT.out, if_pos (by rw [OKA.out.er])]
    have := lockTx_short HLA.out.2
    have := HLA.out.1
    omega
  have B6 := Lib.hid (B5.out.trans (hb6.mono B5.out.size))
  clear hb6 HI HT
  go_wp2_with fail
  refine (lockRead_any t w6 hts (HE.out.ext B6.out)).mono ?_
  rintro e w7 ⟨⟨x, ev, rfl, HI, HO⟩, hb7⟩
  rw [HT2.out] at HI HO
  obtain rfl : ev = .nilIface := HI.out.nil0 rfl
  have B7 := Lib.hid (B6.out.trans (hb7.mono B6.out.size))
  clear hb7 HI HT2 hts
  go_wp2_with fail
  refine (sameWants_any HO.out.row (HA.out.ext B7.out).1 (by have := HNA.out; omega)).mono ?_
  rintro e w8 ⟨rfl, hb8⟩
  rw [decide_eq_true rfl]
  have B8 := Lib.hid (B7.out.trans (hb8.mono B7.out.size))
  clear hb8 HO
  go_wp2_with fail
  refine (ownWants_any va a w8 (by have := HLA.out.1; omega) (HA.out.ext B8.out)).mono ?_
  rintro e w9 ⟨⟨ov, rfl, HO⟩, hb9⟩
  have B9 := Lib.hid (B8.out.trans (hb9.mono B8.out.size))
  clear hb9
  go_wp2_with fail
  refine (lockDiff_any (E := E) va ov a a w9 (HA.out.ext B9.out) HO.out.arg HNA.out HNA.out HSA.out HSA.out (HE.out.ext B9.out).1.1).mono ?_
  rintro e w10 ⟨⟨nv, ev, rfl, HI, HD⟩, hb10⟩
  have hdl : ∀ {c d : List WantB}, LockOk c → LockOk d → diffLk c d = (⟨0, none⟩, diffGo c d) := fun h1 h2 => by unfold diffLk; rw [if_neg (by rw [h1.er]; decide), if_neg (by rw [h2.er]; decide)]
  rw [hdl OKA.out OKA.out] at HI HD
  obtain rfl : ev = .nilIface := HI.out.nil0 rfl
  rw [diff_self] at HD
  obtain ⟨no, nc, rfl⟩ := HD.out.shape
  have B10 := Lib.hid (B9.out.trans (hb10.mono B9.out.size))
  have HDL := Lib.hid (hdl OKA.out OKB.out)
  have HDR := Lib.hid (hdl OKB.out OKA.out)
  clear hb10 HI HD HO hdl
  go_wp2_with fail
  refine (lockDiff_any (E := E) va vb a b w10 (HA.out.ext B10.out) (HB.out.ext B10.out) HNA.out HNB.out HSA.out HSB.out (HE.out.ext B10.out).1.1).mono ?_
  rintro e w11 ⟨⟨dv, ev, rfl, HI, HD⟩, hb11⟩
  rw [HDL.out] at HI HD
  obtain rfl : ev = .nilIface := HI.out.nil0 rfl
  have B11 := Lib.hid (B10.out.trans (hb11.mono B10.out.size))
  clear hb11 HI HDL
  go_wp2_with fail
  refine (lockDiff_any (E := E) vb va b a w11 (HB.out.ext B11.out) (HA.out.ext B11.out) HNB.out HNA.out HSB.out HSA.out (HE.out.ext B11.out).1.1).mono ?_
  rintro e w12 ⟨⟨rv, ev, rfl, HI, HD2⟩, hb12⟩
  rw [HDR.out] at HI HD2
  obtain rfl : ev = .nilIface := HI.out.nil0 rfl
  have HD1 := Lib.hid (HD.out.ext hb12)
  have B12 := Lib.hid (B11.out.trans (hb12.mono B11.out.size))
  rw [diff_flip a b, List.map_map] at HD2
  have HSM := Lib.hid (diff_small OKA.out.strict OKB.out.strict (fun x hx => (HLA.out.2 x hx).1) (fun x hx => (HLB.out.2 x hx).1))
  obtain ⟨D, hD⟩ : ∃ D, diffGo a b = D := ⟨_, rfl⟩
  have HDD := Lib.hid hD
  rw [hD] at HD1 HD2 HSM
  obtain ⟨ao, ac, rfl⟩ := HD1.out.shape
  obtain ⟨ro, rc, rfl⟩ := HD2.out.shape
  obtain ⟨n, hn⟩ : ∃ n, D.length = n := ⟨_, rfl⟩
  have HN := Lib.hid hn
  rw [List.length_map, hn] at HD1 HD2 ⊢
  rw [List.length_map, hn]
  have hn40 : n ≤ 40 := by
    have h1 := diff_len a b
    rw [HDD.out, HN.out] at h1
    have := OKA.out.few
    have := OKB.out.few
    omega
  clear hb12 HI HDR HD hD hn
  go_wp2_with fail
  refine (ownWants_any va a w12 (by have := HLA.out.1; omega) (HA.out.ext B12.out)).mono ?_
  rintro e w13 ⟨⟨ov, rfl, HO⟩, hb13⟩
  have B13 := Lib.hid (B12.out.trans (hb13.mono B12.out.size))
  have HDA := Lib.hid (HD1.out.ext hb13)
  have HDB := Lib.hid (HD2.out.ext hb13)
  rw [← leftA_zero a D] at HO
  have HO0 := Lib.hid (HO.out.low B12.out.size)
  clear hb13 HD1 HD2 HO
  go_wp2_with fail
  go_loopw [15, 16] (fun nv i wr => ∃ k : Nat, k ≤ n ∧ i = .int .i64 k ∧ Hid (WOwn wr w.heap.size nv (leftA a D k)) ∧ Below w13.heap.size w13 wr) (fun _ i _ => n - (intOf i).toNat)
  case atStart => exact ⟨0, Nat.zero_le _, rfl, HO0, Below.refl _ _⟩
  case round =>
    clear HO0
    obtain ⟨k, hk, rfl, HO, hb⟩ := hrel
    have Bw := Lib.hid (B13.out.trans (hb.mono B13.out.size))
    by_cases hlt : k < n
    · have hkD : k < D.length := by rw [HN.out]; exact hlt
      obtain ⟨b1, o1, rfl, hc1⟩ := HDA.out.at (k := k) (by rw [List.length_map]; exact hkD)
      obtain ⟨b2, o2, rfl, hc2⟩ := HDB.out.at (k := k) (by rw [List.length_map]; exact hkD)
      have q1 := hc1 wr hb
      have q2 := hc2 wr hb
      rw [List.getElem_map] at q1 q2
      have HDP : Hid (D[k].1 = 45 → dropLk (leftA a D k) D[k].2 = (⟨0, none⟩, leftA a D (k + 1))) := by
        intro h45
        have hD := HDD.out
        subst hD
        exact leftA_drop OKA.out OKB.out hkD h45
      have HKP : Hid (D[k].1 ≠ 45 → leftA a D (k + 1) = leftA a D k) := by
        intro h45
        have hD := HDD.out
        subst hD
        exact leftA_keep hkD h45
      obtain ⟨hns, hc⟩ := HSM.out _ (List.getElem_mem hkD)
      rw [show (dS ∘ flipD) D[k] = dS (flipD D[k]) from rfl] at q2
      generalize D[k] = p at q1 q2 HDP HKP hns hc
      obtain ⟨c, nm⟩ := p
      dsimp only at HDP HKP hns hc
      have hns1 : 2 + nm.size ≤ 9223372036854775807 := by omega
      have hns2 : nm.size ≤ 9223372036854775805 := by omega
      clear hc1 hc2 hkD
      rcases hc with rfl | rfl | rfl
      · have s1 : ∀ W : World, (Instr.slice 9 (.string (dS (45, nm))) (some (.int .i64 2)) none none).run Tryz.prog W = .ok (.string nm) W := by
          have := slice_from (dS (45, nm)) 2 2 (by rw [dS_size]; omega) rfl
          rwa [dS_tail] at this
        have s2 : ∀ W : World, (Instr.slice 9 (.string (dS (45, nm))) none (some (.int .i64 1)) none).run Tryz.prog W = .ok (.string ⟨#[45]⟩) W := by
          have := slice_to (dS (45, nm)) 1 1 (by rw [dS_size]; omega) rfl
          rwa [dS_head] at this
        have s3 : ∀ W : World, (Instr.index 9 (.string (dS (45, nm))) (.int .i64 0)).run Tryz.prog W = .ok (.int .u8 45) W := index_nat (dS (45, nm)) 0 0 (by rw [dS_size]; omega) rfl
        have e1 : ((dS (flipD (45, nm))).toList == ((({ data := #[43] } : ByteArray) ++ { data := #[32] }) ++ nm).toList) = true := by rw [cat3]; exact beq_self_eq_true _
        obtain ⟨x, hx⟩ : ∃ x, dS (45, nm) = x := ⟨_, rfl⟩
        obtain ⟨y, hy⟩ : ∃ y, dS (flipD (45, nm)) = y := ⟨_, rfl⟩
        rw [hx] at q1 s1 s2 s3
        rw [hy] at q2 e1
        clear hx hy
        go_wp2_with fail
        refine (lockDrop_any (E := E) u15 (leftA a D k) nm wr HO.out.arg (by have := leftA_len a D k; have := HNA.out; omega) (fun f hf => HSA.out f (leftA_mem f hf)) (HE.out.ext Bw.out).1.1).mono ?_
        rintro e w14 ⟨⟨nv2, ev, rfl, HI, HO2⟩, hb14⟩
        rw [HDP.out (by decide)] at HI HO2
        obtain rfl : ev = .nilIface := HI.out.nil0 rfl
        have B14 := Lib.hid (hb.trans (hb14.mono hb.size))
        have HO3 := Lib.hid (HO2.out.low Bw.out.size)
        clear HI HO2 hb14 HDP HKP s1 s2 s3 e1 q1 q2
        go_wp2_with fail
        go_roundw
        case rel => exact ⟨k + 1, by omega, by go_num, HO3, B14.out⟩
        case measure => simp [intOf]; omega
      · have s1 : ∀ W : World, (Instr.slice 9 (.string (dS (43, nm))) (some (.int .i64 2)) none none).run Tryz.prog W = .ok (.string nm) W := by
          have := slice_from (dS (43, nm)) 2 2 (by rw [dS_size]; omega) rfl
          rwa [dS_tail] at this
        have s2 : ∀ W : World, (Instr.slice 9 (.string (dS (43, nm))) none (some (.int .i64 1)) none).run Tryz.prog W = .ok (.string ⟨#[43]⟩) W := by
          have := slice_to (dS (43, nm)) 1 1 (by rw [dS_size]; omega) rfl
          rwa [dS_head] at this
        have s3 : ∀ W : World, (Instr.index 9 (.string (dS (43, nm))) (.int .i64 0)).run Tryz.prog W = .ok (.int .u8 43) W := index_nat (dS (43, nm)) 0 0 (by rw [dS_size]; omega) rfl
        have e1 : ((dS (flipD (43, nm))).toList == ((({ data := #[45] } : ByteArray) ++ { data := #[32] }) ++ nm).toList) = true := by rw [cat3]; exact beq_self_eq_true _
        obtain ⟨x, hx⟩ : ∃ x, dS (43, nm) = x := ⟨_, rfl⟩
        obtain ⟨y, hy⟩ : ∃ y, dS (flipD (43, nm)) = y := ⟨_, rfl⟩
        rw [hx] at q1 s1 s2 s3
        rw [hy] at q2 e1
        clear hx hy
        go_wp2_with fail
        have HO3 : Hid (WOwn wr w.heap.size u15 (leftA a D (k + 1))) := by
          show WOwn _ _ _ _
          rw [HKP.out (by decide)]
          exact HO.out
        clear HDP HKP s1 s2 s3 e1 q1 q2
        go_roundw
        case rel => exact ⟨k + 1, by omega, by go_num, HO3, hb⟩
        case measure => simp [intOf]; omega
      · have s1 : ∀ W : World, (Instr.slice 9 (.string (dS (42, nm))) (some (.int .i64 2)) none none).run Tryz.prog W = .ok (.string nm) W := by
          have := slice_from (dS (42, nm)) 2 2 (by rw [dS_size]; omega) rfl
          rwa [dS_tail] at this
        have s2 : ∀ W : World, (Instr.slice 9 (.string (dS (42, nm))) none (some (.int .i64 1)) none).run Tryz.prog W = .ok (.string ⟨#[42]⟩) W := by
          have := slice_to (dS (42, nm)) 1 1 (by rw [dS_size]; omega) rfl
          rwa [dS_head] at this
        have s3 : ∀ W : World, (Instr.index 9 (.string (dS (42, nm))) (.int .i64 0)).run Tryz.prog W = .ok (.int .u8 42) W := index_nat (dS (42, nm)) 0 0 (by rw [dS_size]; omega) rfl
        have e1 : ((dS (flipD (42, nm))).toList == ((({ data := #[42] } : ByteArray) ++ { data := #[32] }) ++ nm).toList) = true := by rw [cat3]; exact beq_self_eq_true _
        obtain ⟨x, hx⟩ : ∃ x, dS (42, nm) = x := ⟨_, rfl⟩
        obtain ⟨y, hy⟩ : ∃ y, dS (flipD (42, nm)) = y := ⟨_, rfl⟩
        rw [hx] at q1 s1 s2 s3
        rw [hy] at q2 e1
        clear hx hy
        go_wp2_with fail
        have HO3 : Hid (WOwn wr w.heap.size u15 (leftA a D (k + 1))) := by
          show WOwn _ _ _ _
          rw [HKP.out (by decide)]
          exact HO.out
        clear HDP HKP s1 s2 s3 e1 q1 q2
        go_roundw
        case rel => exact ⟨k + 1, by omega, by go_num, HO3, hb⟩
        case measure => simp [intOf]; omega
    · obtain rfl : k = n := by omega
      have HMS : Hid (MidW a b (leftA a D k) D 0) := by
        have hD := HDD.out
        have := MidW.start OKA.out OKB.out
        rw [hD, HN.out] at this
        exact this
      generalize leftA a D k = now0 at HO HMS
      have BE := Lib.hid hb
      obtain ⟨we, rfl⟩ : ∃ we, we = wr := ⟨_, rfl⟩
      obtain ⟨vo, rfl⟩ : ∃ vo, vo = u15 := ⟨_, rfl⟩
      clear hb HDB
      go_wp2_with fail
      go_loopw [15, 20] (fun nv i wr => ∃ (j : Nat) (now : List WantB), j ≤ k ∧ i = .int .i64 j ∧ Hid (WOwn wr w.heap.size nv now) ∧ Hid (MidW a b now D j) ∧ Hid (Below we.heap.size we wr)) (fun _ i _ => k - (intOf i).toNat)
      case atStart => exact ⟨0, now0, Nat.zero_le _, rfl, HO, HMS, Below.refl _ _⟩
      case round =>
        clear HO HMS
        obtain ⟨j, now, hj, rfl, HO, HMD, Bq⟩ := hrel
        have Bw2 := Lib.hid (Bw.out.trans (Bq.out.mono Bw.out.size))
        have hnow := HMD.out.ok.few
        have HSN : Hid (∀ x ∈ now, SmallW x) := fun x hx => by
          rcases (HMD.out.mem x).1 hx with ⟨h1, _⟩ | ⟨h1, _⟩
          · exact HSA.out x h1
          · exact HSB.out x h1
        by_cases hlt : j < k
        · have hkD : j < D.length := by rw [HN.out]; exact hlt
          obtain ⟨b1, o1, rfl, hc1⟩ := HDA.out.at (k := j) (by rw [List.length_map]; exact hkD)
          have q1 := hc1 wr (BE.out.trans (Bq.out.mono BE.out.size))
          rw [List.getElem_map] at q1
          have HKP : Hid (D[j].1 = 45 → MidW a b now D (j + 1)) := by
            intro h45
            have hD := HDD.out
            subst hD
            exact HMD.out.keep hkD h45
          have HST : Hid (D[j].1 ≠ 45 → ∃ i, findW D[j].2 b = some i ∧ ∃ hj : i < b.length, ∃ r, setLk now b[i] = (⟨0, none⟩, r) ∧ MidW a b r D (j + 1)) := by
            intro h45
            have hD := HDD.out
            subst hD
            exact HMD.out.set OKA.out OKB.out hkD h45
          obtain ⟨hns, hc⟩ := HSM.out _ (List.getElem_mem hkD)
          generalize D[j] = p at q1 HKP HST hns hc
          obtain ⟨c, nm⟩ := p
          dsimp only at HKP HST hns hc
          have hns1 : 2 + nm.size ≤ 9223372036854775807 := by omega
          have hns2 : nm.size ≤ 9223372036854775805 := by omega
          clear hc1 hkD HMD
          rcases hc with rfl | rfl | rfl
          · have s1 : ∀ W : World, (Instr.slice 9 (.string (dS (45, nm))) (some (.int .i64 2)) none none).run Tryz.prog W = .ok (.string nm) W := by
              have := slice_from (dS (45, nm)) 2 2 (by rw [dS_size]; omega) rfl
              rwa [dS_tail] at this
            have s3 : ∀ W : World, (Instr.index 9 (.string (dS (45, nm))) (.int .i64 0)).run Tryz.prog W = .ok (.int .u8 45) W := index_nat (dS (45, nm)) 0 0 (by rw [dS_size]; omega) rfl
            obtain ⟨x, hx⟩ : ∃ x, dS (45, nm) = x := ⟨_, rfl⟩
            rw [hx] at q1 s1 s3
            clear hx
            have C := Lib.hid (lockFind_any vb b nm wr (HB.out.ext Bw2.out).1 (by have := HNB.out; omega))
            have HKQ := Lib.hid (HKP.out rfl)
            clear HKP HST
            go_wp2_with fail
            refine C.out.mono ?_
            clear C
            rintro e w14 ⟨rfl, hb14⟩
            have B14 := Lib.hid (Bq.out.trans (hb14.mono Bq.out.size))
            have q1' := (hb14.cell (p := ⟨b1, o1 + j, none⟩) (lt_of_cell q1)).trans q1
            have HO3 := Lib.hid (HO.out.ext hb14)
            generalize findI (findW nm b) = z
            clear hb14 q1
            go_wp2_with fail
            go_roundw
            case rel => exact ⟨j + 1, now, by omega, by go_num, HO3, HKQ, B14⟩
            case measure => simp [intOf]; omega
          · have s1 : ∀ W : World, (Instr.slice 9 (.string (dS (43, nm))) (some (.int .i64 2)) none none).run Tryz.prog W = .ok (.string nm) W := by
              have := slice_from (dS (43, nm)) 2 2 (by rw [dS_size]; omega) rfl
              rwa [dS_tail] at this
            have s3 : ∀ W : World, (Instr.index 9 (.string (dS (43, nm))) (.int .i64 0)).run Tryz.prog W = .ok (.int .u8 43) W := index_nat (dS (43, nm)) 0 0 (by rw [dS_size]; omega) rfl
            obtain ⟨x, hx⟩ : ∃ x, dS (43, nm) = x := ⟨_, rfl⟩
            rw [hx] at q1 s1 s3
            clear hx
            have C := Lib.hid (lockFind_any vb b nm wr (HB.out.ext Bw2.out).1 (by have := HNB.out; omega))
            obtain ⟨i, hfi, hil, nx, hset, hmid⟩ := HST.out (by decide)
            have HSET := Lib.hid hset
            have HMID := Lib.hid hmid
            have HFI := Lib.hid hfi
            clear HKP HST hset hmid hfi
            go_wp2_with fail
            refine C.out.mono ?_
            clear C
            rintro e w14 ⟨rfl, hb14⟩
            have B14 := Lib.hid (Bq.out.trans (hb14.mono Bq.out.size))
            have Bx := Lib.hid (Bw2.out.trans (hb14.mono Bw2.out.size))
            have q1' := (hb14.cell (p := ⟨b1, o1 + j, none⟩) (lt_of_cell q1)).trans q1
            have HO3 := Lib.hid (HO.out.ext hb14)
            rw [show findI (findW nm b) = (i : Int) by rw [HFI.out]; rfl]
            obtain ⟨bo, bcap, rfl⟩ := HB.out.1.len
            obtain ⟨bb, ob, rfl, hcb⟩ := HB.out.1.at hil
            obtain ⟨p0, p1, p2, p3, p4⟩ := hcb w14 Bx.out
            have hsb := HSB.out b[i] (List.getElem_mem hil)
            have C := Lib.hid (lockSet_any (E := E) u15 now b[i] w14 HO3.out.arg (by omega) HSN.out hsb (HE.out.ext Bx.out).1.1)
            rw [HSET.out] at C
            have hilB : (i : Int) < (b.length : Int) := by omega
            generalize b[i] = f at p0 p1 p2 p3 p4 C
            have hi0 : ¬ (i : Int) < 0 := by omega
            clear hb14 q1 hcb hsb HSET HFI
            go_wp2_with fail
            refine C.out.mono ?_
            clear C p0 p1 p2 p3 p4
            rintro e w15 ⟨⟨nv2, ev, rfl, HI, HO4⟩, hb15⟩
            obtain rfl : ev = .nilIface := HI.out.nil0 rfl
            have B15 := Lib.hid (B14.out.trans (hb15.mono B14.out.size))
            have HO5 := Lib.hid (HO4.out.low Bx.out.size)
            clear HI HO4 hb15
            go_wp2_with fail
            go_roundw
            case rel => exact ⟨j + 1, nx, by omega, by go_num, HO5, HMID, B15⟩
            case measure => simp [intOf]; omega
          · have s1 : ∀ W : World, (Instr.slice 9 (.string (dS (42, nm))) (some (.int .i64 2)) none none).run Tryz.prog W = .ok (.string nm) W := by
              have := slice_from (dS (42, nm)) 2 2 (by rw [dS_size]; omega) rfl
              rwa [dS_tail] at this
            have s3 : ∀ W : World, (Instr.index 9 (.string (dS (42, nm))) (.int .i64 0)).run Tryz.prog W = .ok (.int .u8 42) W := index_nat (dS (42, nm)) 0 0 (by rw [dS_size]; omega) rfl
            obtain ⟨x, hx⟩ : ∃ x, dS (42, nm) = x := ⟨_, rfl⟩
            rw [hx] at q1 s1 s3
            clear hx
            have C := Lib.hid (lockFind_any vb b nm wr (HB.out.ext Bw2.out).1 (by have := HNB.out; omega))
            obtain ⟨i, hfi, hil, nx, hset, hmid⟩ := HST.out (by decide)
            have HSET := Lib.hid hset
            have HMID := Lib.hid hmid
            have HFI := Lib.hid hfi
            clear HKP HST hset hmid hfi
            go_wp2_with fail
            refine C.out.mono ?_
            clear C
            rintro e w14 ⟨rfl, hb14⟩
            have B14 := Lib.hid (Bq.out.trans (hb14.mono Bq.out.size))
            have Bx := Lib.hid (Bw2.out.trans (hb14.mono Bw2.out.size))
            have q1' := (hb14.cell (p := ⟨b1, o1 + j, none⟩) (lt_of_cell q1)).trans q1
            have HO3 := Lib.hid (HO.out.ext hb14)
            rw [show findI (findW nm b) = (i : Int) by rw [HFI.out]; rfl]
            obtain ⟨bo, bcap, rfl⟩ := HB.out.1.len
            obtain ⟨bb, ob, rfl, hcb⟩ := HB.out.1.at hil
            obtain ⟨p0, p1, p2, p3, p4⟩ := hcb w14 Bx.out
            have hsb := HSB.out b[i] (List.getElem_mem hil)
            have C := Lib.hid (lockSet_any (E := E) u15 now b[i] w14 HO3.out.arg (by omega) HSN.out hsb (HE.out.ext Bx.out).1.1)
            rw [HSET.out] at C
            have hilB : (i : Int) < (b.length : Int) := by omega
            generalize b[i] = f at p0 p1 p2 p3 p4 C
            have hi0 : ¬ (i : Int) < 0 := by omega
            clear hb14 q1 hcb hsb HSET HFI
            go_wp2_with fail
            refine C.out.mono ?_
            clear C p0 p1 p2 p3 p4
            rintro e w15 ⟨⟨nv2, ev, rfl, HI, HO4⟩, hb15⟩
            obtain rfl : ev = .nilIface := HI.out.nil0 rfl
            have B15 := Lib.hid (B14.out.trans (hb15.mono B14.out.size))
            have HO5 := Lib.hid (HO4.out.low Bx.out.size)
            clear HI HO4 hb15
            go_wp2_with fail
            go_roundw
            case rel => exact ⟨j + 1, nx, by omega, by go_num, HO5, HMID, B15⟩
            case measure => simp [intOf]; omega
        · obtain rfl : j = k := by omega
          have HFIN : Hid (now = b) := by
            have hD := HDD.out
            have h1 := HMD.out
            subst hD
            rw [← HN.out] at h1
            exact h1.done OKA.out OKB.out
          have C := Lib.hid (sameWants_any (w := wr) (v := u15) HO.out.row (HB.out.ext Bw2.out).1 (by omega))
          rw [decide_eq_true HFIN.out] at C
          clear HMD
          go_wp2_with fail
          refine C.out.mono ?_
          rintro e w14 ⟨rfl, hb14⟩
          go_wp2_with fail
          go_ret
          exact ⟨rfl, Bw2.out.trans (hb14.mono Bw2.out.size)⟩
end Go.Proofs.YtgchgdkpipanjaaGreatDoor
