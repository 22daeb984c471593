/- The stable sort's exchanges: swapRangeCmpFunc, rotateCmpFunc at files: contracts. The stable sort's rotation at files: a contract. The stable sort's merging at files: symMergeCmpFunc where one side is of one element. The stable sort at files: what its merging is told of shorter parts. -/
import Derived.Test.YtomceddfbfpjjaaGreatDoorKSortPlainly
import Derived.Test.YtomceddfbfpjjaaGreatDoorKTreed
import Derived.Shelf.SlSortCmp.KitK
import Derived.BigRegion
import Derived.Shelf.SlSortCmp.QuietGrown
namespace Go.Proofs.YtomceddfbfpjjaaGreatDoor
open Go Go.RowKit Go.Lib Go.Sort

instance : Inhabited FileB := ⟨⟨⟨#[]⟩, false, ⟨#[]⟩⟩⟩
abbrev SWF (w0 : World) (blk off : Nat) (d : Array FileB) (W : World) : Prop := SWK encFile 3 w0 blk off d W
abbrev RowF (w0 : World) (blk off : Nat) (d0 : Array FileB) : Prop := RowK encFile 3 w0 blk off d0
theorem SWK.files {w0 W : World} {blk off : Nat} {d0 dk : Array FileB} (S : SWF w0 blk off dk W) (R : RowF w0 blk off d0) (hs : dk.size = d0.size) (i : Nat) (hi : i < dk.size) :
    (W.cell? ⟨blk, off + i * 3, none⟩ = some (.string dk[i]!.path) ∧ W.cell? ⟨blk, off + i * 3 + 1, none⟩ = some (.bool dk[i]!.run) ∧ W.cell? ⟨blk, off + i * 3 + 2, none⟩ = some (.string dk[i]!.text)) ∧
    W.frozen? ⟨blk, off + i * 3, none⟩ = false ∧ W.frozen? ⟨blk, off + i * 3 + 1, none⟩ = false ∧ W.frozen? ⟨blk, off + i * 3 + 2, none⟩ = false := by
  have hH := S.holds R.hblk R.hH hs
  have hc := HoldsK.cells hH R.hk hi
  have hz : ∀ j, j < 3 → i * 3 + j < (flatK encFile 3 dk).size := fun j hj => by rw [size_flatK]; omega
  refine ⟨⟨?_, ?_, ?_⟩, ?_, ?_, ?_⟩
  · have := hc 0 (.string dk[i]!.path) rfl; exact this
  · have := hc 1 (.bool dk[i]!.run) rfl; exact this
  · have := hc 2 (.string dk[i]!.text) rfl; exact this
  · have := (hH (i * 3) (hz 0 (by omega))).2; exact this
  · have := (hH (i * 3 + 1) (hz 1 (by omega))).2; exact this
  · have := (hH (i * 3 + 2) (hz 2 (by omega))).2; exact this
theorem six_cells (w : World) (b o1 o2 : Nat) (v1 v2 v3 u1 u2 u3 : Value) : (w.drew.setCells b o1 [v1, v2, v3]).setCells b o2 [u1, u2, u3] =
    ((((((w.setCell ⟨b, o1, none⟩ v1).setCell ⟨b, o1 + 1, none⟩ v2).setCell ⟨b, o1 + 2, none⟩ v3).setCell ⟨b, o2, none⟩ u1).setCell ⟨b, o2 + 1, none⟩ u2).setCell ⟨b, o2 + 2, none⟩ u3).drew := by
  simp only [World.setCells, World.setCell_drew, Nat.add_assoc, Nat.reduceAdd]
def PermAll (a b : Nat) (d d' : Array FileB) : Prop := ∀ lo hi, lo ≤ a → b ≤ hi → hi ≤ d.size → PermIn lo hi d d'
theorem PermAll.refl (a b : Nat) (d : Array FileB) : PermAll a b d d := fun lo hi _ _ _ => permIn_refl d lo hi
theorem PermAll.trans {a b : Nat} {d d' d'' : Array FileB} (h : PermAll a b d d') (k : PermAll a b d' d'') (hs : d'.size = d.size) : PermAll a b d d'' := fun lo hi h1 h2 h3 => permIn_trans d d' d'' lo hi (h lo hi h1 h2 h3) (k lo hi h1 h2 (by rw [hs]; exact h3))
def SwapPost (w0 : World) (blk off a b n : Nat) (d : Array FileB) (e : Ending) (w' : World) : Prop :=
  e = .returned (.tuple #[]) ∧ ∃ d', SWF w0 blk off d' w' ∧ SwapsIn a b n d d' ∧ PermAll a (b + n) d d'

set_option maxHeartbeats 2000000 in
set_option maxRecDepth 100000 in
theorem swapRange_any (fv : Value) (blk off cap a b n : Nat) (d0 d : Array FileB) (w0 w : World) (R : RowF w0 blk off d0) (hs : d.size = d0.size) (S : SWF w0 blk off d w) (hab : a + n ≤ b) (hb : b + n ≤ d.size) (hsz : d.size < 4611686018427387904) :
    Calls Tryz.prog 231 #[.slice (some ⟨blk, off, none⟩) d.size cap, .int .i64 a, .int .i64 b, .int .i64 n, fv] w (SwapPost w0 blk off a b n d) := by
  have S0 := Lib.hid S
  have HR := Lib.hid R
  have HS := Lib.hid hs
  clear S R hs
  go_enter Tryz.func231, Tryz.ntmps231
  go_wp2_with fail
  go_loopg [10] n (fun g1 vi wr => ∃ (i : Nat) (dk : Array FileB), vi = .int .i64 i ∧ i ≤ n ∧ n - i ≤ g1 ∧ dk.size = d.size ∧ Hid (SWF w0 blk off dk wr) ∧ Hid (SwapsIn a b i d dk) ∧ Hid (PermAll a (b + n) d dk))
  case atStart => exact ⟨0, d, rfl, Nat.zero_le _, Nat.le_refl _, rfl, S0, SwapsIn.zero _ _ _, PermAll.refl _ _ _⟩
  case round =>
    clear S0
    obtain ⟨i, dk, rfl, hi, hg, hdk, S1, H1, H2⟩ := hrel
    by_cases hlt : i < n
    · have ea : ((a : Int) + (i : Int)).toNat = a + i := by omega
      have pa : (0 : Int) ≤ (a : Int) + (i : Int) := by omega
      have ba : (a : Int) + (i : Int) < (d.size : Int) := by omega
      have ra : IntKind.i64.wrap ((a : Int) + (i : Int)) = (a : Int) + (i : Int) := by rw [IntKind.wrap_i64]; omega
      have eb : ((b : Int) + (i : Int)).toNat = b + i := by omega
      have pb : (0 : Int) ≤ (b : Int) + (i : Int) := by omega
      have bb : (b : Int) + (i : Int) < (d.size : Int) := by omega
      have rb : IntKind.i64.wrap ((b : Int) + (i : Int)) = (b : Int) + (i : Int) := by rw [IntKind.wrap_i64]; omega
      have hsk : dk.size = d0.size := hdk.trans HS.out
      have S2 := Lib.hid (S1.out.swapped HR.out (a + i) (b + i) (by omega) (by omega))
      obtain ⟨⟨x0, x1, x2⟩, x3, x4, x5⟩ := SWK.files (W := wr) S1.out HR.out hsk (a + i) (by omega)
      obtain ⟨⟨y0, y1, y2⟩, y3, y4, y5⟩ := SWK.files (W := wr) S1.out HR.out hsk (b + i) (by omega)
      have H3 := Lib.hid (H1.out.step (by omega) (by omega))
      have H4 : Hid (PermAll a (b + n) d (swp dk (a + i) (b + i))) := H2.out.trans (fun lo hi h1 h2 h3 => swp_permIn dk lo hi (a + i) (b + i) (by omega) (by omega) (by omega) (by omega) h3) hdk
      have H5 : Hid ((swp dk (a + i) (b + i)).size = d.size) := by show _ = _; rw [swp_size]; exact hdk
      unfold encFile at S2
      rw [six_cells] at S2
      generalize dk[a + i]! = fI at S2 x0 x1 x2
      generalize dk[b + i]! = fJ at S2 y0 y1 y2
      clear S1 H1 H2 hsk
      go_wp2_with fail
      go_big_region
      clear x0 x1 x2 x3 x4 x5 y0 y1 y2 y3 y4 y5
      go_wp2_with fail
      go_roundg (n - (i + 1))
      case measure => omega
      case rel => exact ⟨i + 1, _, by go_num, by omega, Nat.le_refl _, H5.out, S2, H3, H4⟩
    · obtain rfl : i = n := by omega
      go_wp2_with fail
      go_end0
      exact ⟨rfl, dk, S1.out, H1.out, H2.out⟩
end Go.Proofs.YtomceddfbfpjjaaGreatDoor

namespace Go.Proofs.YtomceddfbfpjjaaGreatDoor
open Go Go.RowKit Go.Lib Go.Sort

def RotPost (w0 : World) (blk off a m b : Nat) (d : Array FileB) (e : Ending) (w' : World) : Prop :=
  e = .returned (.tuple #[]) ∧ ∃ d', SWF w0 blk off d' w' ∧ RotIn a m b d d' ∧ PermAll a b d d'

set_option maxHeartbeats 2000000 in
set_option maxRecDepth 100000 in
theorem rotate_any (fv : Value) (blk off cap a m b : Nat) (d0 d : Array FileB) (w0 w : World) (R : RowF w0 blk off d0) (hs : d.size = d0.size) (S : SWF w0 blk off d w) (ham : a < m) (hmb : m < b) (hb : b ≤ d.size) (hsz : d.size < 4611686018427387904) :
    Calls Tryz.prog 228 #[.slice (some ⟨blk, off, none⟩) d.size cap, .int .i64 a, .int .i64 m, .int .i64 b, fv] w (RotPost w0 blk off a m b d) := by
  have S0 := Lib.hid S
  have HR := Lib.hid R
  have HS := Lib.hid hs
  clear S R hs
  have e1 : (m : Int) - (a : Int) = ((m - a : Nat) : Int) := by omega
  have e2 : (b : Int) - (m : Int) = ((b - m : Nat) : Int) := by omega
  have E1 := Lib.hid e1
  have E2 := Lib.hid e2
  clear e1 e2
  go_enter Tryz.func228, Tryz.ntmps228
  go_wp2_with fail
  go_loopg [10, 11] (m - a + (b - m)) (fun g1 vi vj wr => ∃ (i j : Nat) (dk : Array FileB), vi = .int .i64 i ∧ vj = .int .i64 j ∧ 0 < i ∧ 0 < j ∧ i ≤ m - a ∧ j ≤ b - m ∧ i + j ≤ g1 ∧ dk.size = d.size ∧ Hid (SWF w0 blk off dk wr) ∧ Hid (∀ d2, RotIn (m - i) m (m + j) dk d2 → RotIn a m b d d2) ∧ Hid (PermAll a b d dk))
  case atStart => exact ⟨m - a, b - m, d, by rw [E1.out], by rw [E2.out], by omega, by omega, Nat.le_refl _, Nat.le_refl _, Nat.le_refl _, rfl, S0, (fun d2 h => by
    rw [show m - (m - a) = a by omega, show m + (b - m) = b by omega] at h; exact h), PermAll.refl _ _ _⟩
  case round =>
    clear S0 E1 E2
    obtain ⟨i, j, dk, rfl, rfl, hi0, hj0, hi, hj, hg, hdk, S1, H1, H2⟩ := hrel
    have hsk : dk.size = d0.size := hdk.trans HS.out
    by_cases hne : i = j
    · subst hne
      have C := Lib.hid (swapRange_any fv blk off cap (m - i) m i d0 dk w0 wr HR.out hsk S1.out (by omega) (by omega) (by omega))
      have q1 : (m : Int) - (i : Int) = ((m - i : Nat) : Int) := by omega
      rw [hdk] at C
      have hbne : ((i : Int) != (i : Int)) = false := by simp
      rw [← q1] at C
      clear q1
      go_wp2_with fail
      refine C.out.mono ?_
      rintro e w2 ⟨rfl, d1, S2, G1, G2⟩
      have S2 := Lib.hid S2
      have F1 := Lib.hid (H1.out d1 (RotIn.even G1 (by omega)))
      have F2 : Hid (PermAll a b d d1) := H2.out.trans (fun lo hi h1 h2 h3 => G2 lo hi (by omega) (by omega) h3) hdk
      clear G1 G2 C S1 H1 H2
      go_wp2_with fail
      go_end0
      exact ⟨rfl, d1, S2.out, F1.out, F2.out⟩
    · have hbne : ((i : Int) != (j : Int)) = true := by simp; omega
      by_cases hij : j < i
      · have C := Lib.hid (swapRange_any fv blk off cap (m - i) m j d0 dk w0 wr HR.out hsk S1.out (by omega) (by omega) (by omega))
        have q1 : (m : Int) - (i : Int) = ((m - i : Nat) : Int) := by omega
        rw [hdk, ← q1] at C
        clear q1
        go_wp2_with fail
        refine C.out.mono ?_
        rintro e w2 ⟨rfl, d1, S2, G1, G2⟩
        have S2 := Lib.hid S2
        have hd1 : d1.size = d.size := G1.1.trans hdk
        have F1 : Hid (∀ d2, RotIn (m - (i - j)) m (m + j) d1 d2 → RotIn a m b d d2) := fun d2 h => H1.out d2 (RotIn.long G1 hij (by omega) h)
        have F2 : Hid (PermAll a b d d1) := H2.out.trans (fun lo hi h1 h2 h3 => G2 lo hi (by omega) (by omega) h3) hdk
        clear G1 G2 C S1 H1 H2
        go_wp2_with fail
        go_roundg (i - j + j)
        case measure => omega
        case rel => exact ⟨i - j, j, d1, by rw [show (i : Int) - (j : Int) = ((i - j : Nat) : Int) by omega], rfl, by omega, hj0, by omega, hj, Nat.le_refl _, hd1, S2, F1, F2⟩
      · have C := Lib.hid (swapRange_any fv blk off cap (m - i) (m + j - i) i d0 dk w0 wr HR.out hsk S1.out (by omega) (by omega) (by omega))
        have q1 : (m : Int) - (i : Int) = ((m - i : Nat) : Int) := by omega
        have q2 : (m : Int) + (j : Int) - (i : Int) = ((m + j - i : Nat) : Int) := by omega
        rw [hdk, ← q1, ← q2] at C
        clear q1 q2
        go_wp2_with fail
        refine C.out.mono ?_
        rintro e w2 ⟨rfl, d1, S2, G1, G2⟩
        have S2 := Lib.hid S2
        have hd1 : d1.size = d.size := G1.1.trans hdk
        have F1 : Hid (∀ d2, RotIn (m - i) m (m + (j - i)) d1 d2 → RotIn a m b d d2) := fun d2 h => H1.out d2 (RotIn.short G1 (by omega) (by omega) h)
        have F2 : Hid (PermAll a b d d1) := H2.out.trans (fun lo hi h1 h2 h3 => G2 lo hi (by omega) (by omega) h3) hdk
        clear G1 G2 C S1 H1 H2
        go_wp2_with fail
        go_roundg (i + (j - i))
        case measure => omega
        case rel => exact ⟨i, j - i, d1, rfl, by rw [show (j : Int) - (i : Int) = ((j - i : Nat) : Int) by omega], hi0, by omega, hi, by omega, Nat.le_refl _, hd1, S2, F1, F2⟩
end Go.Proofs.YtomceddfbfpjjaaGreatDoor

namespace Go.Proofs.YtomceddfbfpjjaaGreatDoor
open Go Go.RowKit Go.Lib Go.Sort

def MergePost (w0 : World) (blk off : Nat) (lt : FileB → FileB → Bool) (a b : Nat) (d : Array FileB) (e : Ending) (w' : World) : Prop :=
  e = .returned (.tuple #[]) ∧ ∃ d', SWF w0 blk off d' w' ∧ PermAll a b d d' ∧ SortedIn lt a b d'

set_option maxHeartbeats 2000000 in
set_option maxRecDepth 100000 in
theorem symMerge_up (cf : FileB → FileB → Int) (g : Nat) (cb : Array Value) (eg : ∀ args w, (callFunc g args).run Tryz.prog w = .ok (.enter g args) w) (hO : SWO (ltOf cf)) (blk off cap a b : Nat) (d0 d : Array FileB) (w0 w : World)
    (hC : CmpLays Tryz.prog g cb encFile 3 cf blk off d0.size w0) (R : RowF w0 blk off d0) (hs : d.size = d0.size) (S : SWF w0 blk off d w) (hab : a + 1 < b) (hb : b ≤ d.size) (hsz : d.size < 4611686018427387904) (h2 : SortedIn (ltOf cf) (a + 1) b d) :
    Calls Tryz.prog 223 #[.slice (some ⟨blk, off, none⟩) d.size cap, .int .i64 a, .int .i64 ((a : Int) + 1), .int .i64 b, .func (.func g) #[] cb] w (MergePost w0 blk off (ltOf cf) a b d) := by
  have S0 := Lib.hid S
  have HR := Lib.hid R
  have HS := Lib.hid hs
  have HC : Aside _ := hC
  have HO := Lib.hid hO
  have H2 := Lib.hid h2
  have mixed : Tryz.prog.follows .mixedOrders = true := by kernel_rfl
  have q1 : (((a : Int) + 1) - (a : Int) == 1) = true := by simp; omega
  clear S R hs hC hO h2
  go_enter Tryz.func223, Tryz.ntmps223
  go_wp2_with fail
  go_loopg [10, 11] (b - (a + 1)) (fun g1 vi vj wr => ∃ (i j : Nat), vi = .int .i64 i ∧ vj = .int .i64 j ∧ a + 1 ≤ i ∧ i ≤ j ∧ j ≤ b ∧ j - i ≤ g1 ∧ Hid (SWF w0 blk off d wr) ∧ Hid (i = a + 1 ∨ ltOf cf d[i - 1]! d[a]! = true) ∧ Hid (j = b ∨ ltOf cf d[j]! d[a]! = false))
  case atStart => exact ⟨a + 1, b, by go_num, rfl, Nat.le_refl _, by omega, Nat.le_refl _, Nat.le_refl _, S0, .inl rfl, .inl rfl⟩
  case round =>
    clear S0
    obtain ⟨i, j, rfl, rfl, hi, hij, hj, hg, S1, H3, H4⟩ := hrel
    by_cases hlt : i < j
    · obtain ⟨q, hq⟩ : ∃ q, (i + j) / 2 = q := ⟨_, rfl⟩
      have eq1 : ((i : Int) + (j : Int)) / 2 = (q : Int) := by omega
      have EQ := Lib.hid eq1
      have e1 : (((i : Int) + (j : Int)) / 2).toNat = q := by omega
      have p1 : (0 : Int) ≤ ((i : Int) + (j : Int)) / 2 := by omega
      have b1 : ((i : Int) + (j : Int)) / 2 < (d.size : Int) := by omega
      have ba : (a : Int) < (d.size : Int) := by omega
      have hqi : i ≤ q := by omega
      have hqj : q < j := by omega
      have lx : ∀ n os, _ := fun n os => (SWK.files (S1.out.grown n os) HR.out HS.out q (by omega)).1
      have ly : ∀ n os, _ := fun n os => (SWK.files (S1.out.grown n os) HR.out HS.out a (by omega)).1
      have lx0 := fun n os => (lx n os).1
      have lx1 := fun n os => (lx n os).2.1
      have lx2 := fun n os => (lx n os).2.2
      have ly0 := fun n os => (ly n os).1
      have ly1 := fun n os => (ly n os).2.1
      have ly2 := fun n os => (ly n os).2.2
      have hc : ∀ n os, _ := fun n os => S1.out.cmp HC.out HS.out d[q]! d[a]! n os
      have HCM := Lib.hid hc
      clear lx ly hc hq eq1
      by_cases hv : cf d[q]! d[a]! < 0
      · have H5 : Hid (ltOf cf d[q]! d[a]! = true) := decide_eq_true hv
        have H6 : Hid (q + 1 = a + 1 ∨ ltOf cf d[q + 1 - 1]! d[a]! = true) := .inr H5.out
        generalize d[q]! = fq at lx0 lx1 lx2 HCM hv
        generalize d[a]! = fa at ly0 ly1 ly2 HCM hv
        clear H3
        go_wp2_with fail
        go_quiet_grown (first | (go_at_fn g; refine Calls.grown_of (HCM.out _ _)))
        have S2 := Lib.hid (S1.out.grown nq osq)
        generalize grow (wr.drewN nq) osq = wv at S2 ⊢
        clear lx0 lx1 lx2 ly0 ly1 ly2 HCM S1
        go_wp2_with fail
        go_roundg (j - (q + 1))
        case measure => omega
        case rel => exact ⟨q + 1, j, by rw [EQ.out]; go_num, rfl, by omega, by omega, hj, Nat.le_refl _, S2, H6, H4⟩
      · have H5 : Hid (q = b ∨ ltOf cf d[q]! d[a]! = false) := .inr (decide_eq_false hv)
        have hvf : decide (cf d[q]! d[a]! < 0) = false := decide_eq_false hv
        generalize d[q]! = fq at lx0 lx1 lx2 HCM hv hvf
        generalize d[a]! = fa at ly0 ly1 ly2 HCM hv hvf
        clear H4
        go_wp2_with fail
        go_quiet_grown (first | (go_at_fn g; refine Calls.grown_of (HCM.out _ _)))
        have S2 := Lib.hid (S1.out.grown nq osq)
        generalize grow (wr.drewN nq) osq = wv at S2 ⊢
        clear lx0 lx1 lx2 ly0 ly1 ly2 HCM S1
        go_wp2_with fail
        go_roundg (q - i)
        case measure => omega
        case rel => exact ⟨i, q, rfl, by rw [EQ.out], hi, hqi, by omega, Nat.le_refl _, S2, H3, H5⟩
    · obtain rfl : i = j := by omega
      have im1 : (i : Int) - 1 = ((i - 1 : Nat) : Int) := by omega
      have IM := Lib.hid im1
      clear im1
      go_wp2_with fail
      go_loopg [13] (i - 1 - a) (fun g1 vk wr => ∃ (k : Nat) (dk : Array FileB), vk = .int .i64 k ∧ a ≤ k ∧ k ≤ i - 1 ∧ i - 1 - k ≤ g1 ∧ dk.size = d.size ∧ Hid (SWF w0 blk off dk wr) ∧ Hid (RotIn a (a + 1) (k + 1) d dk) ∧ Hid (PermAll a b d dk))
      case atStart => exact ⟨a, d, rfl, Nat.le_refl _, by omega, Nat.le_refl _, rfl, S1, RotIn.right (by omega) d, PermAll.refl _ _ _⟩
      case round =>
        clear S1
        obtain ⟨k, dk, rfl, hk, hki, hg2, hdk, S1, G1, G2⟩ := hrel
        by_cases hkl : k < i - 1
        · have hlt2 : (k : Int) < (i : Int) - 1 := by omega
          have hsk : dk.size = d0.size := hdk.trans HS.out
          have bk : (k : Int) < (d.size : Int) := by omega
          have e2 : ((k : Int) + 1).toNat = k + 1 := by omega
          have p2 : (0 : Int) ≤ (k : Int) + 1 := by omega
          have b2 : (k : Int) + 1 < (d.size : Int) := by omega
          have r2 : IntKind.i64.wrap ((k : Int) + 1) = (k : Int) + 1 := by rw [IntKind.wrap_i64]; omega
          have S2 := Lib.hid (S1.out.swapped HR.out k (k + 1) (by omega) (by omega))
          obtain ⟨⟨x0, x1, x2⟩, x3, x4, x5⟩ := SWK.files (W := wr) S1.out HR.out hsk k (by omega)
          obtain ⟨⟨y0, y1, y2⟩, y3, y4, y5⟩ := SWK.files (W := wr) S1.out HR.out hsk (k + 1) (by omega)
          have G3 : Hid (RotIn a (a + 1) (k + 1 + 1) d (swp dk k (k + 1))) := RotIn.up G1.out hk (by omega)
          have G4 : Hid (PermAll a b d (swp dk k (k + 1))) := G2.out.trans (fun lo hi h1 h2 h3 => swp_permIn dk lo hi k (k + 1) (by omega) (by omega) (by omega) (by omega) h3) hdk
          have G5 : Hid ((swp dk k (k + 1)).size = d.size) := by show _ = _; rw [swp_size]; exact hdk
          unfold encFile at S2
          rw [six_cells] at S2
          generalize dk[k]! = fI at S2 x0 x1 x2
          generalize dk[k + 1]! = fJ at S2 y0 y1 y2
          clear S1 G1 G2 hsk
          go_wp2_with fail
          go_big_region
          clear x0 x1 x2 x3 x4 x5 y0 y1 y2 y3 y4 y5
          go_wp2_with fail
          go_roundg (i - 1 - (k + 1))
          case measure => omega
          case rel => exact ⟨k + 1, _, by go_num, by omega, by omega, Nat.le_refl _, G5.out, S2, G3, G4⟩
        · have hlt2 : ¬ (k : Int) < (i : Int) - 1 := by omega
          obtain rfl : k = i - 1 := by omega
          have hfin := up_sorted HO.out (i := i) (b := b) H2.out (by have := G1.out; rwa [show i - 1 + 1 = i by omega] at this) hi hj H3.out H4.out
          have HF := Lib.hid hfin
          clear hfin
          go_wp2_with fail
          go_end0
          exact ⟨rfl, dk, S1.out, G2.out, HF.out⟩

set_option maxHeartbeats 2000000 in
set_option maxRecDepth 100000 in
theorem symMerge_down (cf : FileB → FileB → Int) (g : Nat) (cb : Array Value) (eg : ∀ args w, (callFunc g args).run Tryz.prog w = .ok (.enter g args) w) (hO : SWO (ltOf cf)) (blk off cap a m : Nat) (d0 d : Array FileB) (w0 w : World)
    (hC : CmpLays Tryz.prog g cb encFile 3 cf blk off d0.size w0) (R : RowF w0 blk off d0) (hs : d.size = d0.size) (S : SWF w0 blk off d w) (hab : a + 1 < m) (hb : m + 1 ≤ d.size) (hsz : d.size < 4611686018427387904) (h1 : SortedIn (ltOf cf) a m d) :
    Calls Tryz.prog 223 #[.slice (some ⟨blk, off, none⟩) d.size cap, .int .i64 a, .int .i64 m, .int .i64 ((m : Int) + 1), .func (.func g) #[] cb] w (MergePost w0 blk off (ltOf cf) a (m + 1) d) := by
  have S0 := Lib.hid S
  have HR := Lib.hid R
  have HS := Lib.hid hs
  have HC : Aside _ := hC
  have HO := Lib.hid hO
  have H1 := Lib.hid h1
  have mixed : Tryz.prog.follows .mixedOrders = true := by kernel_rfl
  have q0 : ((m : Int) - (a : Int) == 1) = false := by simp; omega
  have q1 : (((m : Int) + 1) - (m : Int) == 1) = true := by simp; omega
  clear S R hs hC hO h1
  go_enter Tryz.func223, Tryz.ntmps223
  go_wp2_with fail
  go_loopg [14, 15] (m - a) (fun g1 vi vj wr => ∃ (i j : Nat), vi = .int .i64 i ∧ vj = .int .i64 j ∧ a ≤ i ∧ i ≤ j ∧ j ≤ m ∧ j - i ≤ g1 ∧ Hid (SWF w0 blk off d wr) ∧ Hid (i = a ∨ ltOf cf d[m]! d[i - 1]! = false) ∧ Hid (j = m ∨ ltOf cf d[m]! d[j]! = true))
  case atStart => exact ⟨a, m, rfl, rfl, Nat.le_refl _, by omega, Nat.le_refl _, Nat.le_refl _, S0, .inl rfl, .inl rfl⟩
  case round =>
    clear S0
    obtain ⟨i, j, rfl, rfl, hi, hij, hj, hg, S1, H3, H4⟩ := hrel
    by_cases hlt : i < j
    · obtain ⟨q, hq⟩ : ∃ q, (i + j) / 2 = q := ⟨_, rfl⟩
      have eq1 : ((i : Int) + (j : Int)) / 2 = (q : Int) := by omega
      have EQ := Lib.hid eq1
      have e1 : (((i : Int) + (j : Int)) / 2).toNat = q := by omega
      have p1 : (0 : Int) ≤ ((i : Int) + (j : Int)) / 2 := by omega
      have b1 : ((i : Int) + (j : Int)) / 2 < (d.size : Int) := by omega
      have ba : (m : Int) < (d.size : Int) := by omega
      have hqi : i ≤ q := by omega
      have hqj : q < j := by omega
      have lx : ∀ n os, _ := fun n os => (SWK.files (S1.out.grown n os) HR.out HS.out q (by omega)).1
      have ly : ∀ n os, _ := fun n os => (SWK.files (S1.out.grown n os) HR.out HS.out m (by omega)).1
      have lx0 := fun n os => (lx n os).1
      have lx1 := fun n os => (lx n os).2.1
      have lx2 := fun n os => (lx n os).2.2
      have ly0 := fun n os => (ly n os).1
      have ly1 := fun n os => (ly n os).2.1
      have ly2 := fun n os => (ly n os).2.2
      have hc : ∀ n os, _ := fun n os => S1.out.cmp HC.out HS.out d[m]! d[q]! n os
      have HCM := Lib.hid hc
      clear lx ly hc hq eq1
      by_cases hv : cf d[m]! d[q]! < 0
      · have H5 : Hid (q = m ∨ ltOf cf d[m]! d[q]! = true) := .inr (decide_eq_true hv)
        generalize d[q]! = fq at lx0 lx1 lx2 HCM hv
        generalize d[m]! = fa at ly0 ly1 ly2 HCM hv
        clear H4
        go_wp2_with fail
        go_quiet_grown (first | (go_at_fn g; refine Calls.grown_of (HCM.out _ _)))
        have S2 := Lib.hid (S1.out.grown nq osq)
        generalize grow (wr.drewN nq) osq = wv at S2 ⊢
        clear lx0 lx1 lx2 ly0 ly1 ly2 HCM S1
        go_wp2_with fail
        go_roundg (q - i)
        case measure => omega
        case rel => exact ⟨i, q, rfl, by rw [EQ.out], hi, hqi, by omega, Nat.le_refl _, S2, H3, H5⟩
      · have H5 : Hid (q + 1 = a ∨ ltOf cf d[m]! d[q + 1 - 1]! = false) := .inr (decide_eq_false hv)
        have hvf : decide (cf d[m]! d[q]! < 0) = false := decide_eq_false hv
        generalize d[q]! = fq at lx0 lx1 lx2 HCM hv hvf
        generalize d[m]! = fa at ly0 ly1 ly2 HCM hv hvf
        clear H3
        go_wp2_with fail
        go_quiet_grown (first | (go_at_fn g; refine Calls.grown_of (HCM.out _ _)))
        have S2 := Lib.hid (S1.out.grown nq osq)
        generalize grow (wr.drewN nq) osq = wv at S2 ⊢
        clear lx0 lx1 lx2 ly0 ly1 ly2 HCM S1
        go_wp2_with fail
        go_roundg (j - (q + 1))
        case measure => omega
        case rel => exact ⟨q + 1, j, by rw [EQ.out]; go_num, rfl, by omega, by omega, hj, Nat.le_refl _, S2, H5, H4⟩
    · obtain rfl : i = j := by omega
      go_wp2_with fail
      go_loopg [17] (m - i) (fun g1 vk wr => ∃ (k : Nat) (dk : Array FileB), vk = .int .i64 k ∧ i ≤ k ∧ k ≤ m ∧ k - i ≤ g1 ∧ dk.size = d.size ∧ Hid (SWF w0 blk off dk wr) ∧ Hid (RotIn k m (m + 1) d dk) ∧ Hid (PermAll a (m + 1) d dk))
      case atStart => exact ⟨m, d, rfl, by omega, Nat.le_refl _, Nat.le_refl _, rfl, S1, RotIn.left d, PermAll.refl _ _ _⟩
      case round =>
        clear S1
        obtain ⟨k, dk, rfl, hk, hki, hg2, hdk, S1, G1, G2⟩ := hrel
        by_cases hkl : i < k
        · obtain ⟨k, rfl⟩ : ∃ k', k = k' + 1 := ⟨k - 1, by omega⟩
          have hlt2 : (i : Int) < (k : Int) + 1 := by omega
          have hsk : dk.size = d0.size := hdk.trans HS.out
          have bk : (k : Int) < (d.size : Int) := by omega
          have e2 : ((k : Int) + 1).toNat = k + 1 := by omega
          have p2 : (0 : Int) ≤ (k : Int) + 1 := by omega
          have b2 : (k : Int) + 1 < (d.size : Int) := by omega
          have r2 : IntKind.i64.wrap ((k : Int) + 1) = (k : Int) + 1 := by rw [IntKind.wrap_i64]; omega
          have r3 : IntKind.i64.wrap (k : Int) = (k : Int) := by rw [IntKind.wrap_i64]; omega
          have S2 := Lib.hid (S1.out.swapped HR.out (k + 1) k (by omega) (by omega))
          obtain ⟨⟨x0, x1, x2⟩, x3, x4, x5⟩ := SWK.files (W := wr) S1.out HR.out hsk k (by omega)
          obtain ⟨⟨y0, y1, y2⟩, y3, y4, y5⟩ := SWK.files (W := wr) S1.out HR.out hsk (k + 1) (by omega)
          have G3 : Hid (RotIn k m (m + 1) d (swp dk (k + 1) k)) := RotIn.down G1.out (by omega) (by omega)
          have G4 : Hid (PermAll a (m + 1) d (swp dk (k + 1) k)) := G2.out.trans (fun lo hi h1 h2 h3 => swp_permIn dk lo hi (k + 1) k (by omega) (by omega) (by omega) (by omega) h3) hdk
          have G5 : Hid ((swp dk (k + 1) k).size = d.size) := by show _ = _; rw [swp_size]; exact hdk
          unfold encFile at S2
          rw [six_cells] at S2
          generalize dk[k]! = fI at S2 x0 x1 x2
          generalize dk[k + 1]! = fJ at S2 y0 y1 y2
          clear S1 G1 G2 hsk
          go_wp2_with fail
          go_big_region
          clear x0 x1 x2 x3 x4 x5 y0 y1 y2 y3 y4 y5
          go_wp2_with fail
          go_roundg (k - i)
          case measure => omega
          case rel => exact ⟨k, _, by go_num, by omega, by omega, Nat.le_refl _, G5.out, S2, G3, G4⟩
        · have hlt2 : ¬ (i : Int) < (k : Int) := by omega
          obtain rfl : k = i := by omega
          have hfin := down_sorted HO.out (i := k) H1.out G1.out hi hj H3.out H4.out
          have HF := Lib.hid hfin
          clear hfin
          go_wp2_with fail
          go_end0
          exact ⟨rfl, dk, S1.out, G2.out, HF.out⟩
end Go.Proofs.YtomceddfbfpjjaaGreatDoor

namespace Go.Proofs.YtomceddfbfpjjaaGreatDoor
open Go Go.RowKit Go.Lib Go.Sort

/-- What the whole is told of shorter ones. -/
def SymAll (P : Program) (f g : Nat) (cb : Array Value) (lt : FileB → FileB → Bool) (w0 : World) (blk off cap size n : Nat) : Prop :=
  ∀ (a m b : Nat) (d : Array FileB) (w : World), b - a ≤ n → a < m → m < b → b ≤ d.size → d.size = size → SWF w0 blk off d w → SortedIn lt a m d → SortedIn lt m b d →
    Calls P f #[.slice (some ⟨blk, off, none⟩) d.size cap, .int .i64 a, .int .i64 m, .int .i64 b, .func (.func g) #[] cb] w (MergePost w0 blk off lt a b d)
end Go.Proofs.YtomceddfbfpjjaaGreatDoor
