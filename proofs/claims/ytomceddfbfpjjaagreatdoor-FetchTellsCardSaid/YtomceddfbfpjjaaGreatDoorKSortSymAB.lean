/- The stable sort's merging at files: symMergeCmpFunc, the middle lies ahead of m. The stable sort's merging at files: symMergeCmpFunc, the middle does not lie ahead of m. -/
import Derived.Test.YtomceddfbfpjjaaGreatDoorKSorts
import Derived.Test.YtomceddfbfpjjaaGreatDoorKSortPlainly
import Derived.Deep.DeepCutAuto
import Derived.Deep.CutRange
namespace Go.Proofs.YtomceddfbfpjjaaGreatDoor
open Go Go.RowKit Go.Lib Go.Sort

set_option maxHeartbeats 4000000 in
set_option maxRecDepth 100000 in
theorem symMerge_lo (cf : FileB → FileB → Int) (g : Nat) (cb : Array Value) (eg : ∀ args w, (callFunc g args).run Tryz.prog w = .ok (.enter g args) w) (hO : SWO (ltOf cf)) (blk off cap a m b N mid : Nat) (d0 d : Array FileB) (w0 w : World)
    (hC : CmpLays Tryz.prog g cb encFile 3 cf blk off d0.size w0) (R : RowF w0 blk off d0) (hs : d.size = d0.size) (S : SWF w0 blk off d w) (ham : a + 1 < m) (hmb : m + 1 < b) (hb : b ≤ d.size) (hsz : d.size < 4611686018427387904) (h1 : SortedIn (ltOf cf) a m d) (h2 : SortedIn (ltOf cf) m b d)
    (hN : b - a ≤ N + 1) (IH : SymAll Tryz.prog 223 g cb (ltOf cf) w0 blk off cap d0.size N) (hmid : (a + b) / 2 = mid) (hmm : mid < m) :
    Calls Tryz.prog 223 #[.slice (some ⟨blk, off, none⟩) d.size cap, .int .i64 a, .int .i64 m, .int .i64 b, .func (.func g) #[] cb] w (MergePost w0 blk off (ltOf cf) a b d) := by
  have S0 := Lib.hid S
  have HR := Lib.hid R
  have HS := Lib.hid hs
  have HC : Aside _ := hC
  have HO := Lib.hid hO
  have H1 := Lib.hid h1
  have H2 := Lib.hid h2
  have HIH : Aside _ := IH
  have mixed : Tryz.prog.follows .mixedOrders = true := by kernel_rfl
  have q0 : ((m : Int) - (a : Int) == 1) = false := by simp; omega
  have q1 : ((b : Int) - (m : Int) == 1) = false := by simp; omega
  have eqm : ((a : Int) + (b : Int)) / 2 = (mid : Int) := by omega
  have hm1 : a < mid := by omega
  have hm2 : mid < b := by omega
  clear S R hs hC hO h1 h2 IH hmid
  · go_enter Tryz.func223, Tryz.ntmps223
    go_wp2_with fail
    go_loopg [20, 21] (mid - (mid + m - b)) (fun g1 vi vj wr => ∃ (i j : Nat), vi = .int .i64 i ∧ vj = .int .i64 j ∧ (mid + m - b) ≤ i ∧ i ≤ j ∧ j ≤ mid ∧ j - i ≤ g1 ∧ Hid (SWF w0 blk off d wr) ∧ Hid (i = (mid + m - b) ∨ ltOf cf d[mid + m - i]! d[i - 1]! = false) ∧ Hid (j = mid ∨ ltOf cf d[mid + m - 1 - j]! d[j]! = true))
    case atStart => exact ⟨(mid + m - b), mid, by rw [show (mid : Int) + (m : Int) - (b : Int) = ((mid + m - b : Nat) : Int) by omega], rfl, Nat.le_refl _, by omega, Nat.le_refl _, Nat.le_refl _, S0, .inl rfl, .inl rfl⟩
    case round =>
      clear S0
      obtain ⟨i, j, rfl, rfl, hi, hij, hj, hg, S1, H3, H4⟩ := hrel
      by_cases hlt : i < j
      · obtain ⟨q, hq⟩ : ∃ q, (i + j) / 2 = q := ⟨_, rfl⟩
        have eq1 : ((i : Int) + (j : Int)) / 2 = (q : Int) := by omega
        have EQ := Lib.hid eq1
        have e1 : (((i : Int) + (j : Int)) / 2).toNat = q := by omega
        have p1 : (0 : Int) ≤ ((i : Int) + (j : Int)) / 2 := by omega
        have b1 : ((i : Int) + (j : Int)) / 2 < (d.size : Int) := by omega
        have hqi : i ≤ q := by omega
        have hqj : q < j := by omega
        obtain ⟨y, hy⟩ : ∃ y, mid + m - 1 - q = y := ⟨_, rfl⟩
        have e2 : ((mid : Int) + (m : Int) - 1 - ((i : Int) + (j : Int)) / 2).toNat = y := by omega
        have p2 : (0 : Int) ≤ (mid : Int) + (m : Int) - 1 - ((i : Int) + (j : Int)) / 2 := by omega
        have b2 : (mid : Int) + (m : Int) - 1 - ((i : Int) + (j : Int)) / 2 < (d.size : Int) := by omega
        have p3 : ((i : Int) + (j : Int)) / 2 ≤ (mid : Int) + (m : Int) - 1 := by omega
        have r2 : IntKind.i64.wrap ((mid : Int) + (m : Int) - 1 - ((i : Int) + (j : Int)) / 2) = (mid : Int) + (m : Int) - 1 - ((i : Int) + (j : Int)) / 2 := by rw [IntKind.wrap_i64]; omega
        have hyd : y < d.size := by omega
        have lx : ∀ n os, _ := fun n os => (SWK.files (S1.out.grown n os) HR.out HS.out q (by omega)).1
        have ly : ∀ n os, _ := fun n os => (SWK.files (S1.out.grown n os) HR.out HS.out y hyd).1
        have lx0 := fun n os => (lx n os).1
        have lx1 := fun n os => (lx n os).2.1
        have lx2 := fun n os => (lx n os).2.2
        have ly0 := fun n os => (ly n os).1
        have ly1 := fun n os => (ly n os).2.1
        have ly2 := fun n os => (ly n os).2.2
        have hc : ∀ n os, _ := fun n os => S1.out.cmp HC.out HS.out d[y]! d[q]! n os
        have HCM := Lib.hid hc
        have HY := Lib.hid hy
        clear lx ly hc hq eq1 hy
        by_cases hv : cf d[y]! d[q]! < 0
        · have H5 : Hid (q = mid ∨ ltOf cf d[mid + m - 1 - q]! d[q]! = true) := .inr (by rw [HY.out]; exact decide_eq_true hv)
          generalize d[q]! = fq at lx0 lx1 lx2 HCM hv
          generalize d[y]! = fa at ly0 ly1 ly2 HCM hv
          clear H4
          go_wp2_with fail
          go_quiet_grown (first | (go_at_fn g; refine Calls.grown_of (HCM.out _ _)))
          have S2 := Lib.hid (S1.out.grown nq osq)
          generalize grow (wr.drewN nq) osq = wv at S2 ⊢
          clear lx0 lx1 lx2 ly0 ly1 ly2 HCM S1
          go_wp2_with fail
          go_roundg (q - i)
          case measure => omega
          case rel => exact ⟨i, q, rfl, by rw [EQ.out], hi, hqi, by omega, Nat.le_refl _, S2, H3, H5⟩
        · have H5 : Hid (q + 1 = (mid + m - b) ∨ ltOf cf d[mid + m - (q + 1)]! d[q + 1 - 1]! = false) := .inr (by rw [show mid + m - (q + 1) = y by have := HY.out; omega]; exact decide_eq_false hv)
          have hvf : decide (cf d[y]! d[q]! < 0) = false := decide_eq_false hv
          generalize d[q]! = fq at lx0 lx1 lx2 HCM hv hvf
          generalize d[y]! = fa at ly0 ly1 ly2 HCM hv hvf
          clear H3
          go_wp2_with fail
          go_quiet_grown (first | (go_at_fn g; refine Calls.grown_of (HCM.out _ _)))
          have S2 := Lib.hid (S1.out.grown nq osq)
          generalize grow (wr.drewN nq) osq = wv at S2 ⊢
          clear lx0 lx1 lx2 ly0 ly1 ly2 HCM S1
          go_wp2_with fail
          go_roundg (j - (q + 1))
          case measure => omega
          case rel => exact ⟨q + 1, j, by rw [EQ.out]; go_num, rfl, by omega, by omega, hj, Nat.le_refl _, S2, H5, H4⟩
      · obtain rfl : i = j := by omega
        obtain ⟨E, hE⟩ : ∃ E, mid + m - i = E := ⟨_, rfl⟩
        have eE : (mid : Int) + (m : Int) - (i : Int) = (E : Int) := by omega
        have KL : Hid (i = a ∨ E = b ∨ ltOf cf d[E]! d[i - 1]! = false) := by
          rcases H3.out with h | h
          · first | exact .inl (by omega) | exact .inr (.inl (by omega))
          · rw [hE] at h; exact .inr (.inr h)
        have KR : Hid (E = m ∨ i = m ∨ ltOf cf d[i]! d[E - 1]! = false) := by
          rcases H4.out with h | h
          · first | exact .inl (by omega) | exact .inr (.inl (by omega))
          · rw [show mid + m - 1 - i = E - 1 by omega] at h; exact .inr (.inr (swo_asymm HO.out h))
        have g1 : a ≤ i := by omega
        have g2 : i ≤ m := by omega
        have g3 : m ≤ E := by omega
        have g4 : E ≤ b := by omega
        have g5 : i + (E - m) = mid := by omega
        have g6 : i ≤ mid := by omega
        have g7 : mid ≤ E := by omega
        have G5 := Lib.hid g5
        clear H3 H4 hE g5 hg hlt
        go_upto_region 39 with fail
        go_cut [185] from 25 (fun s wx => s = .bool (decide (i < m ∧ m < E)) ∧ Hid (SWF w0 blk off d wx))
        case first => as_aux_lemma =>
          by_cases c1 : i < m
          · by_cases c2 : m < E
            · go_wp2_with fail
              go_meet
              case rel => exact ⟨by simp [c1, c2], S1⟩
            · go_wp2_with fail
              go_meet
              case rel => exact ⟨by simp [c1, c2], S1⟩
          · go_wp2_with fail
            go_meet
            case rel => exact ⟨by simp [c1], S1⟩
        case rest => as_aux_lemma =>
        clear S1
        obtain ⟨rfl, S1⟩ := hcut
        go_upto_if 185 with fail
        go_cut [0] from 25 (fun s wx => s = .slice (some ⟨blk, off, none⟩) d.size cap ∧ ∃ d1 : Array FileB, Hid (SWF w0 blk off d1 wx) ∧ Hid (RotIn i m E d d1) ∧ Hid (PermAll a b d d1))
        case first => as_aux_lemma =>
          by_cases c : i < m ∧ m < E
          · have cd : decide (i < m ∧ m < E) = true := decide_eq_true c
            have C := Lib.hid (rotate_any (.func (.func g) #[] cb) blk off cap i m E d0 d w0 _ HR.out HS.out S1.out c.1 c.2 (by omega) hsz)
            clear c
            rw [cd]
            go_wp2_with fail
            refine C.out.mono ?_
            rintro e w2 ⟨rfl, d1, S2, G1, G2⟩
            have S2 := Lib.hid S2
            have G1 := Lib.hid G1
            have G2 : Hid (PermAll a b d d1) := fun lo hi h1 h2 h3 => G2 lo hi (by omega) (by omega) h3
            clear C S1
            go_wp2_with fail
            go_meet
            case rel => exact ⟨rfl, d1, S2, G1, G2⟩
          · have cd : decide (i < m ∧ m < E) = false := decide_eq_false c
            have G1 : Hid (RotIn i m E d d) := by
              by_cases c1 : i < m
              · have : E = m := by omega
                subst this; exact RotIn.right g2 d
              · have : i = m := by omega
                subst this; exact RotIn.left d
            rw [cd]
            clear c
            go_wp2_with fail
            go_meet
            case rel => exact ⟨rfl, d, S1, G1, PermAll.refl _ _ _⟩
        case rest => as_aux_lemma =>
        clear S1
        obtain ⟨rfl, d1, S1, F1, F2⟩ := hcut
        have hd1 : d1.size = d.size := F1.out.1
        have HD1 := Lib.hid hd1
        have T := Lib.hid (sym_halves HO.out H1.out H2.out F1.out g1 g2 g3 g4 G5.out KL.out KR.out)
        clear hd1 F1 KL KR
        go_upto_region 41 with fail
        go_cut [199] from 25 (fun s wx => s = .bool (decide (a < i ∧ i < mid)) ∧ Hid (SWF w0 blk off d1 wx))
        case first => as_aux_lemma =>
          by_cases c1 : a < i
          · by_cases c2 : i < mid
            · go_wp2_with fail
              go_meet
              case rel => exact ⟨by simp [c1, c2], S1⟩
            · go_wp2_with fail
              go_meet
              case rel => exact ⟨by simp [c1, c2], S1⟩
          · go_wp2_with fail
            go_meet
            case rel => exact ⟨by simp [c1], S1⟩
        case rest => as_aux_lemma =>
        clear S1
        obtain ⟨rfl, S1⟩ := hcut
        go_upto_if 199 with fail
        go_cut [0] from 25 (fun s wx => s = .slice (some ⟨blk, off, none⟩) d.size cap ∧ ∃ d2 : Array FileB, Hid (SWF w0 blk off d2 wx) ∧ Hid (PermAll a mid d1 d2) ∧ Hid (SortedIn (ltOf cf) a mid d2))
        case first => as_aux_lemma =>
          by_cases c : a < i ∧ i < mid
          · have cd : decide (a < i ∧ i < mid) = true := decide_eq_true c
            have C := HIH.out a i mid d1 _ (by omega) c.1 c.2 (by have := HD1.out; omega) (HD1.out.trans HS.out) S1.out T.out.1 T.out.2.1
            rw [HD1.out] at C
            have C := Lib.hid C
            clear c
            rw [cd]
            go_wp2_with fail
            refine C.out.mono ?_
            rintro e w2 ⟨rfl, d2, S2, G1, G2⟩
            have S2 := Lib.hid S2
            have G1 := Lib.hid G1
            have G2 := Lib.hid G2
            clear C S1
            go_wp2_with fail
            go_meet
            case rel => exact ⟨rfl, d2, S2, G1, G2⟩
          · have cd : decide (a < i ∧ i < mid) = false := decide_eq_false c
            have G1 : Hid (SortedIn (ltOf cf) a mid d1) := by
              by_cases c1 : a < i
              · have e : i = mid := by omega
                have := T.out.1; rw [e] at this; exact this
              · have e : i = a := by omega
                have := T.out.2.1; rw [e] at this; exact this
            rw [cd]
            clear c
            go_wp2_with fail
            go_meet
            case rel => exact ⟨rfl, d1, S1, PermAll.refl _ _ _, G1⟩
        case rest => as_aux_lemma =>
        clear S1
        obtain ⟨rfl, d2, S1, F3, F4⟩ := hcut
        have hd2 : d2.size = d1.size := (F3.out 0 d1.size (Nat.zero_le _) (by have := HD1.out; omega) (Nat.le_refl _)).1
        have HD2 := Lib.hid (hd2.trans HD1.out)
        have P2 := Lib.hid (F3.out a mid (Nat.le_refl _) (Nat.le_refl _) (by have := HD1.out; omega))
        clear hd2
        go_upto_region 43 with fail
        go_cut [213] from 25 (fun s wx => s = .bool (decide (mid < E ∧ E < b)) ∧ Hid (SWF w0 blk off d2 wx))
        case first => as_aux_lemma =>
          by_cases c1 : mid < E
          · by_cases c2 : E < b
            · go_wp2_with fail
              go_meet
              case rel => exact ⟨by simp [c1, c2], S1⟩
            · go_wp2_with fail
              go_meet
              case rel => exact ⟨by simp [c1, c2], S1⟩
          · go_wp2_with fail
            go_meet
            case rel => exact ⟨by simp [c1], S1⟩
        case rest => as_aux_lemma =>
        clear S1
        obtain ⟨rfl, S1⟩ := hcut
        by_cases c : mid < E ∧ E < b
        · have cd : decide (mid < E ∧ E < b) = true := decide_eq_true c
          have C := HIH.out mid E b d2 _ (by omega) c.1 c.2 (by have := HD2.out; omega) (HD2.out.trans HS.out) S1.out (permIn_keeps P2.out (.inr (Nat.le_refl _)) T.out.2.2.1) (permIn_keeps P2.out (.inr g7) T.out.2.2.2.1)
          rw [HD2.out] at C
          have C := Lib.hid C
          clear c
          rw [cd]
          go_wp2_with fail
          refine C.out.mono ?_
          rintro e w2 ⟨rfl, d3, S2, G1, G2⟩
          have S2 := Lib.hid S2
          have P3 := G1 mid b (Nat.le_refl _) (Nat.le_refl _) (by have := HD2.out; omega)
          have R3 := Lib.hid (sym_done (by have := HD1.out; omega) (by omega) (by omega) T.out.2.2.2.2 P2.out F4.out P3 G2)
          have R4 : Hid (PermAll a b d d3) := (F2.out.trans (fun lo hi h1 h2 h3 => F3.out lo hi h1 (by omega) h3) HD1.out).trans (fun lo hi h1 h2 h3 => G1 lo hi (by omega) h2 h3) HD2.out
          clear C S1 G1 G2 P3
          go_wp2_with fail
          go_end0
          exact ⟨rfl, d3, S2.out, R4.out, R3.out⟩
        · have cd : decide (mid < E ∧ E < b) = false := decide_eq_false c
          have G2 : SortedIn (ltOf cf) mid b d2 := by
            by_cases c1 : mid < E
            · have e : E = b := by omega
              have := permIn_keeps P2.out (.inr (Nat.le_refl _)) T.out.2.2.1; rw [e] at this; exact this
            · have e : E = mid := by omega
              have := permIn_keeps P2.out (.inr g7) T.out.2.2.2.1; rw [e] at this; exact this
          have R3 := Lib.hid (sym_done (by have := HD1.out; omega) (by omega) (by omega) T.out.2.2.2.2 P2.out F4.out (permIn_refl d2 mid b) G2)
          have R4 : Hid (PermAll a b d d2) := F2.out.trans (fun lo hi h1 h2 h3 => F3.out lo hi h1 (by omega) h3) HD1.out
          rw [cd]
          clear c G2
          go_wp2_with fail
          go_end0
          exact ⟨rfl, d2, S1.out, R4.out, R3.out⟩

end Go.Proofs.YtomceddfbfpjjaaGreatDoor

namespace Go.Proofs.YtomceddfbfpjjaaGreatDoor
open Go Go.RowKit Go.Lib Go.Sort

set_option maxHeartbeats 4000000 in
set_option maxRecDepth 100000 in
theorem symMerge_hi (cf : FileB → FileB → Int) (g : Nat) (cb : Array Value) (eg : ∀ args w, (callFunc g args).run Tryz.prog w = .ok (.enter g args) w) (hO : SWO (ltOf cf)) (blk off cap a m b N mid : Nat) (d0 d : Array FileB) (w0 w : World)
    (hC : CmpLays Tryz.prog g cb encFile 3 cf blk off d0.size w0) (R : RowF w0 blk off d0) (hs : d.size = d0.size) (S : SWF w0 blk off d w) (ham : a + 1 < m) (hmb : m + 1 < b) (hb : b ≤ d.size) (hsz : d.size < 4611686018427387904) (h1 : SortedIn (ltOf cf) a m d) (h2 : SortedIn (ltOf cf) m b d)
    (hN : b - a ≤ N + 1) (IH : SymAll Tryz.prog 223 g cb (ltOf cf) w0 blk off cap d0.size N) (hmid : (a + b) / 2 = mid) (hmm : ¬ mid < m) :
    Calls Tryz.prog 223 #[.slice (some ⟨blk, off, none⟩) d.size cap, .int .i64 a, .int .i64 m, .int .i64 b, .func (.func g) #[] cb] w (MergePost w0 blk off (ltOf cf) a b d) := by
  have S0 := Lib.hid S
  have HR := Lib.hid R
  have HS := Lib.hid hs
  have HC : Aside _ := hC
  have HO := Lib.hid hO
  have H1 := Lib.hid h1
  have H2 := Lib.hid h2
  have HIH : Aside _ := IH
  have mixed : Tryz.prog.follows .mixedOrders = true := by kernel_rfl
  have q0 : ((m : Int) - (a : Int) == 1) = false := by simp; omega
  have q1 : ((b : Int) - (m : Int) == 1) = false := by simp; omega
  have eqm : ((a : Int) + (b : Int)) / 2 = (mid : Int) := by omega
  have hm1 : a < mid := by omega
  have hm2 : mid < b := by omega
  clear S R hs hC hO h1 h2 IH hmid
  · go_enter Tryz.func223, Tryz.ntmps223
    go_wp2_with fail
    go_loopg [20, 21] (m - a) (fun g1 vi vj wr => ∃ (i j : Nat), vi = .int .i64 i ∧ vj = .int .i64 j ∧ a ≤ i ∧ i ≤ j ∧ j ≤ m ∧ j - i ≤ g1 ∧ Hid (SWF w0 blk off d wr) ∧ Hid (i = a ∨ ltOf cf d[mid + m - i]! d[i - 1]! = false) ∧ Hid (j = m ∨ ltOf cf d[mid + m - 1 - j]! d[j]! = true))
    case atStart => exact ⟨a, m, rfl, rfl, Nat.le_refl _, by omega, Nat.le_refl _, Nat.le_refl _, S0, .inl rfl, .inl rfl⟩
    case round =>
      clear S0
      obtain ⟨i, j, rfl, rfl, hi, hij, hj, hg, S1, H3, H4⟩ := hrel
      by_cases hlt : i < j
      · obtain ⟨q, hq⟩ : ∃ q, (i + j) / 2 = q := ⟨_, rfl⟩
        have eq1 : ((i : Int) + (j : Int)) / 2 = (q : Int) := by omega
        have EQ := Lib.hid eq1
        have e1 : (((i : Int) + (j : Int)) / 2).toNat = q := by omega
        have p1 : (0 : Int) ≤ ((i : Int) + (j : Int)) / 2 := by omega
        have b1 : ((i : Int) + (j : Int)) / 2 < (d.size : Int) := by omega
        have hqi : i ≤ q := by omega
        have hqj : q < j := by omega
        obtain ⟨y, hy⟩ : ∃ y, mid + m - 1 - q = y := ⟨_, rfl⟩
        have e2 : ((mid : Int) + (m : Int) - 1 - ((i : Int) + (j : Int)) / 2).toNat = y := by omega
        have p2 : (0 : Int) ≤ (mid : Int) + (m : Int) - 1 - ((i : Int) + (j : Int)) / 2 := by omega
        have b2 : (mid : Int) + (m : Int) - 1 - ((i : Int) + (j : Int)) / 2 < (d.size : Int) := by omega
        have p3 : ((i : Int) + (j : Int)) / 2 ≤ (mid : Int) + (m : Int) - 1 := by omega
        have r2 : IntKind.i64.wrap ((mid : Int) + (m : Int) - 1 - ((i : Int) + (j : Int)) / 2) = (mid : Int) + (m : Int) - 1 - ((i : Int) + (j : Int)) / 2 := by rw [IntKind.wrap_i64]; omega
        have hyd : y < d.size := by omega
        have lx : ∀ n os, _ := fun n os => (SWK.files (S1.out.grown n os) HR.out HS.out q (by omega)).1
        have ly : ∀ n os, _ := fun n os => (SWK.files (S1.out.grown n os) HR.out HS.out y hyd).1
        have lx0 := fun n os => (lx n os).1
        have lx1 := fun n os => (lx n os).2.1
        have lx2 := fun n os => (lx n os).2.2
        have ly0 := fun n os => (ly n os).1
        have ly1 := fun n os => (ly n os).2.1
        have ly2 := fun n os => (ly n os).2.2
        have hc : ∀ n os, _ := fun n os => S1.out.cmp HC.out HS.out d[y]! d[q]! n os
        have HCM := Lib.hid hc
        have HY := Lib.hid hy
        clear lx ly hc hq eq1 hy
        by_cases hv : cf d[y]! d[q]! < 0
        · have H5 : Hid (q = m ∨ ltOf cf d[mid + m - 1 - q]! d[q]! = true) := .inr (by rw [HY.out]; exact decide_eq_true hv)
          generalize d[q]! = fq at lx0 lx1 lx2 HCM hv
          generalize d[y]! = fa at ly0 ly1 ly2 HCM hv
          clear H4
          go_wp2_with fail
          go_quiet_grown (first | (go_at_fn g; refine Calls.grown_of (HCM.out _ _)))
          have S2 := Lib.hid (S1.out.grown nq osq)
          generalize grow (wr.drewN nq) osq = wv at S2 ⊢
          clear lx0 lx1 lx2 ly0 ly1 ly2 HCM S1
          go_wp2_with fail
          go_roundg (q - i)
          case measure => omega
          case rel => exact ⟨i, q, rfl, by rw [EQ.out], hi, hqi, by omega, Nat.le_refl _, S2, H3, H5⟩
        · have H5 : Hid (q + 1 = a ∨ ltOf cf d[mid + m - (q + 1)]! d[q + 1 - 1]! = false) := .inr (by rw [show mid + m - (q + 1) = y by have := HY.out; omega]; exact decide_eq_false hv)
          have hvf : decide (cf d[y]! d[q]! < 0) = false := decide_eq_false hv
          generalize d[q]! = fq at lx0 lx1 lx2 HCM hv hvf
          generalize d[y]! = fa at ly0 ly1 ly2 HCM hv hvf
          clear H3
          go_wp2_with fail
          go_quiet_grown (first | (go_at_fn g; refine Calls.grown_of (HCM.out _ _)))
          have S2 := Lib.hid (S1.out.grown nq osq)
          generalize grow (wr.drewN nq) osq = wv at S2 ⊢
          clear lx0 lx1 lx2 ly0 ly1 ly2 HCM S1
          go_wp2_with fail
          go_roundg (j - (q + 1))
          case measure => omega
          case rel => exact ⟨q + 1, j, by rw [EQ.out]; go_num, rfl, by omega, by omega, hj, Nat.le_refl _, S2, H5, H4⟩
      · obtain rfl : i = j := by omega
        obtain ⟨E, hE⟩ : ∃ E, mid + m - i = E := ⟨_, rfl⟩
        have eE : (mid : Int) + (m : Int) - (i : Int) = (E : Int) := by omega
        have KL : Hid (i = a ∨ E = b ∨ ltOf cf d[E]! d[i - 1]! = false) := by
          rcases H3.out with h | h
          · first | exact .inl (by omega) | exact .inr (.inl (by omega))
          · rw [hE] at h; exact .inr (.inr h)
        have KR : Hid (E = m ∨ i = m ∨ ltOf cf d[i]! d[E - 1]! = false) := by
          rcases H4.out with h | h
          · first | exact .inl (by omega) | exact .inr (.inl (by omega))
          · rw [show mid + m - 1 - i = E - 1 by omega] at h; exact .inr (.inr (swo_asymm HO.out h))
        have g1 : a ≤ i := by omega
        have g2 : i ≤ m := by omega
        have g3 : m ≤ E := by omega
        have g4 : E ≤ b := by omega
        have g5 : i + (E - m) = mid := by omega
        have g6 : i ≤ mid := by omega
        have g7 : mid ≤ E := by omega
        have G5 := Lib.hid g5
        clear H3 H4 hE g5 hg hlt
        go_upto_region 39 with fail
        go_cut [185] from 25 (fun s wx => s = .bool (decide (i < m ∧ m < E)) ∧ Hid (SWF w0 blk off d wx))
        case first => as_aux_lemma =>
          by_cases c1 : i < m
          · by_cases c2 : m < E
            · go_wp2_with fail
              go_meet
              case rel => exact ⟨by simp [c1, c2], S1⟩
            · go_wp2_with fail
              go_meet
              case rel => exact ⟨by simp [c1, c2], S1⟩
          · go_wp2_with fail
            go_meet
            case rel => exact ⟨by simp [c1], S1⟩
        case rest => as_aux_lemma =>
        clear S1
        obtain ⟨rfl, S1⟩ := hcut
        go_upto_if 185 with fail
        go_cut [0] from 25 (fun s wx => s = .slice (some ⟨blk, off, none⟩) d.size cap ∧ ∃ d1 : Array FileB, Hid (SWF w0 blk off d1 wx) ∧ Hid (RotIn i m E d d1) ∧ Hid (PermAll a b d d1))
        case first => as_aux_lemma =>
          by_cases c : i < m ∧ m < E
          · have cd : decide (i < m ∧ m < E) = true := decide_eq_true c
            have C := Lib.hid (rotate_any (.func (.func g) #[] cb) blk off cap i m E d0 d w0 _ HR.out HS.out S1.out c.1 c.2 (by omega) hsz)
            clear c
            rw [cd]
            go_wp2_with fail
            refine C.out.mono ?_
            rintro e w2 ⟨rfl, d1, S2, G1, G2⟩
            have S2 := Lib.hid S2
            have G1 := Lib.hid G1
            have G2 : Hid (PermAll a b d d1) := fun lo hi h1 h2 h3 => G2 lo hi (by omega) (by omega) h3
            clear C S1
            go_wp2_with fail
            go_meet
            case rel => exact ⟨rfl, d1, S2, G1, G2⟩
          · have cd : decide (i < m ∧ m < E) = false := decide_eq_false c
            have G1 : Hid (RotIn i m E d d) := by
              by_cases c1 : i < m
              · have : E = m := by omega
                subst this; exact RotIn.right g2 d
              · have : i = m := by omega
                subst this; exact RotIn.left d
            rw [cd]
            clear c
            go_wp2_with fail
            go_meet
            case rel => exact ⟨rfl, d, S1, G1, PermAll.refl _ _ _⟩
        case rest => as_aux_lemma =>
        clear S1
        obtain ⟨rfl, d1, S1, F1, F2⟩ := hcut
        have hd1 : d1.size = d.size := F1.out.1
        have HD1 := Lib.hid hd1
        have T := Lib.hid (sym_halves HO.out H1.out H2.out F1.out g1 g2 g3 g4 G5.out KL.out KR.out)
        clear hd1 F1 KL KR
        go_upto_region 41 with fail
        go_cut [199] from 25 (fun s wx => s = .bool (decide (a < i ∧ i < mid)) ∧ Hid (SWF w0 blk off d1 wx))
        case first => as_aux_lemma =>
          by_cases c1 : a < i
          · by_cases c2 : i < mid
            · go_wp2_with fail
              go_meet
              case rel => exact ⟨by simp [c1, c2], S1⟩
            · go_wp2_with fail
              go_meet
              case rel => exact ⟨by simp [c1, c2], S1⟩
          · go_wp2_with fail
            go_meet
            case rel => exact ⟨by simp [c1], S1⟩
        case rest => as_aux_lemma =>
        clear S1
        obtain ⟨rfl, S1⟩ := hcut
        go_upto_if 199 with fail
        go_cut [0] from 25 (fun s wx => s = .slice (some ⟨blk, off, none⟩) d.size cap ∧ ∃ d2 : Array FileB, Hid (SWF w0 blk off d2 wx) ∧ Hid (PermAll a mid d1 d2) ∧ Hid (SortedIn (ltOf cf) a mid d2))
        case first => as_aux_lemma =>
          by_cases c : a < i ∧ i < mid
          · have cd : decide (a < i ∧ i < mid) = true := decide_eq_true c
            have C := HIH.out a i mid d1 _ (by omega) c.1 c.2 (by have := HD1.out; omega) (HD1.out.trans HS.out) S1.out T.out.1 T.out.2.1
            rw [HD1.out] at C
            have C := Lib.hid C
            clear c
            rw [cd]
            go_wp2_with fail
            refine C.out.mono ?_
            rintro e w2 ⟨rfl, d2, S2, G1, G2⟩
            have S2 := Lib.hid S2
            have G1 := Lib.hid G1
            have G2 := Lib.hid G2
            clear C S1
            go_wp2_with fail
            go_meet
            case rel => exact ⟨rfl, d2, S2, G1, G2⟩
          · have cd : decide (a < i ∧ i < mid) = false := decide_eq_false c
            have G1 : Hid (SortedIn (ltOf cf) a mid d1) := by
              by_cases c1 : a < i
              · have e : i = mid := by omega
                have := T.out.1; rw [e] at this; exact this
              · have e : i = a := by omega
                have := T.out.2.1; rw [e] at this; exact this
            rw [cd]
            clear c
            go_wp2_with fail
            go_meet
            case rel => exact ⟨rfl, d1, S1, PermAll.refl _ _ _, G1⟩
        case rest => as_aux_lemma =>
        clear S1
        obtain ⟨rfl, d2, S1, F3, F4⟩ := hcut
        have hd2 : d2.size = d1.size := (F3.out 0 d1.size (Nat.zero_le _) (by have := HD1.out; omega) (Nat.le_refl _)).1
        have HD2 := Lib.hid (hd2.trans HD1.out)
        have P2 := Lib.hid (F3.out a mid (Nat.le_refl _) (Nat.le_refl _) (by have := HD1.out; omega))
        clear hd2
        go_upto_region 43 with fail
        go_cut [213] from 25 (fun s wx => s = .bool (decide (mid < E ∧ E < b)) ∧ Hid (SWF w0 blk off d2 wx))
        case first => as_aux_lemma =>
          by_cases c1 : mid < E
          · by_cases c2 : E < b
            · go_wp2_with fail
              go_meet
              case rel => exact ⟨by simp [c1, c2], S1⟩
            · go_wp2_with fail
              go_meet
              case rel => exact ⟨by simp [c1, c2], S1⟩
          · go_wp2_with fail
            go_meet
            case rel => exact ⟨by simp [c1], S1⟩
        case rest => as_aux_lemma =>
        clear S1
        obtain ⟨rfl, S1⟩ := hcut
        by_cases c : mid < E ∧ E < b
        · have cd : decide (mid < E ∧ E < b) = true := decide_eq_true c
          have C := HIH.out mid E b d2 _ (by omega) c.1 c.2 (by have := HD2.out; omega) (HD2.out.trans HS.out) S1.out (permIn_keeps P2.out (.inr (Nat.le_refl _)) T.out.2.2.1) (permIn_keeps P2.out (.inr g7) T.out.2.2.2.1)
          rw [HD2.out] at C
          have C := Lib.hid C
          clear c
          rw [cd]
          go_wp2_with fail
          refine C.out.mono ?_
          rintro e w2 ⟨rfl, d3, S2, G1, G2⟩
          have S2 := Lib.hid S2
          have P3 := G1 mid b (Nat.le_refl _) (Nat.le_refl _) (by have := HD2.out; omega)
          have R3 := Lib.hid (sym_done (by have := HD1.out; omega) (by omega) (by omega) T.out.2.2.2.2 P2.out F4.out P3 G2)
          have R4 : Hid (PermAll a b d d3) := (F2.out.trans (fun lo hi h1 h2 h3 => F3.out lo hi h1 (by omega) h3) HD1.out).trans (fun lo hi h1 h2 h3 => G1 lo hi (by omega) h2 h3) HD2.out
          clear C S1 G1 G2 P3
          go_wp2_with fail
          go_end0
          exact ⟨rfl, d3, S2.out, R4.out, R3.out⟩
        · have cd : decide (mid < E ∧ E < b) = false := decide_eq_false c
          have G2 : SortedIn (ltOf cf) mid b d2 := by
            by_cases c1 : mid < E
            · have e : E = b := by omega
              have := permIn_keeps P2.out (.inr (Nat.le_refl _)) T.out.2.2.1; rw [e] at this; exact this
            · have e : E = mid := by omega
              have := permIn_keeps P2.out (.inr g7) T.out.2.2.2.1; rw [e] at this; exact this
          have R3 := Lib.hid (sym_done (by have := HD1.out; omega) (by omega) (by omega) T.out.2.2.2.2 P2.out F4.out (permIn_refl d2 mid b) G2)
          have R4 : Hid (PermAll a b d d2) := F2.out.trans (fun lo hi h1 h2 h3 => F3.out lo hi h1 (by omega) h3) HD1.out
          rw [cd]
          clear c G2
          go_wp2_with fail
          go_end0
          exact ⟨rfl, d2, S1.out, R4.out, R3.out⟩

end Go.Proofs.YtomceddfbfpjjaaGreatDoor
