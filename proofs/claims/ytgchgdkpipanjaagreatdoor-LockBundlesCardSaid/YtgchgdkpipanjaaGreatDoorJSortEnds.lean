/- The stable sort's merging at files: symMergeCmpFunc, whole. The stable sort at files: stableCmpFunc, SortStableFunc: contracts. What the shelf's insertion sort asks of this program's own copy. (Laid by the kit's tools; the numbers by name.) The stable sort at files: SortStableFunc, by the shelf's insertion sort and the merging. -/
import Derived.Test.YtgchgdkpipanjaaGreatDoorJSortSymAB
import Derived.Test.YtgchgdkpipanjaaGreatDoorJSortPlainly
import Derived.Shelf.SlSortCmp.InsertionK
import Derived.Shelf.SlGeneric
import Derived.Ground.SlsfProg
import Derived.Test.YtgchgdkpipanjaaGreatDoorProg
import Derived.Shelf.SlSortFuncK.ComposeK
namespace Go.Proofs.YtgchgdkpipanjaaGreatDoor
open Go Go.RowKit Go.Lib Go.Sort

theorem symMerge_mid (cf : FileB → FileB → Int) (g : Nat) (cb : Array Value) (eg : ∀ args w, (callFunc g args).run Tryz.prog w = .ok (.enter g args) w) (hO : SWO (ltOf cf)) (blk off cap a m b N : Nat) (d0 d : Array FileB) (w0 w : World)
    (hC : CmpLays Tryz.prog g cb encFile 3 cf blk off d0.size w0) (R : RowF w0 blk off d0) (hs : d.size = d0.size) (S : SWF w0 blk off d w) (ham : a + 1 < m) (hmb : m + 1 < b) (hb : b ≤ d.size) (hsz : d.size < 4611686018427387904) (h1 : SortedIn (ltOf cf) a m d) (h2 : SortedIn (ltOf cf) m b d)
    (hN : b - a ≤ N + 1) (IH : SymAll Tryz.prog 245 g cb (ltOf cf) w0 blk off cap d0.size N) :
    Calls Tryz.prog 245 #[.slice (some ⟨blk, off, none⟩) d.size cap, .int .i64 a, .int .i64 m, .int .i64 b, .func (.func g) #[] cb] w (MergePost w0 blk off (ltOf cf) a b d) := by
  by_cases hmm : (a + b) / 2 < m
  · exact symMerge_lo cf g cb eg hO blk off cap a m b N _ d0 d w0 w hC R hs S ham hmb hb hsz h1 h2 hN IH rfl hmm
  · exact symMerge_hi cf g cb eg hO blk off cap a m b N _ d0 d w0 w hC R hs S ham hmb hb hsz h1 h2 hN IH rfl hmm
theorem symMerge_all (cf : FileB → FileB → Int) (g : Nat) (cb : Array Value) (eg : ∀ args w, (callFunc g args).run Tryz.prog w = .ok (.enter g args) w) (hO : SWO (ltOf cf)) (blk off cap : Nat) (d0 : Array FileB) (w0 : World)
    (hC : CmpLays Tryz.prog g cb encFile 3 cf blk off d0.size w0) (R : RowF w0 blk off d0) (hsz : d0.size < 4611686018427387904) : ∀ n, SymAll Tryz.prog 245 g cb (ltOf cf) w0 blk off cap d0.size n
  | 0 => fun a m b d w h h1 h2 => by omega
  | n + 1 => fun a m b d w h h1 h2 hb hs S s1 s2 => by
    by_cases c1 : m = a + 1
    · subst c1
      exact symMerge_up cf g cb eg hO blk off cap a b d0 d w0 w hC R hs S h2 hb (by omega) s2
    · by_cases c2 : b = m + 1
      · subst c2
        exact symMerge_down cf g cb eg hO blk off cap a m d0 d w0 w hC R hs S (by omega) hb (by omega) s1
      · exact symMerge_mid cf g cb eg hO blk off cap a m b n d0 d w0 w hC R hs S (by omega) (by omega) hb (by omega) s1 s2 h (symMerge_all cf g cb eg hO blk off cap d0 w0 hC R hsz n)
end Go.Proofs.YtgchgdkpipanjaaGreatDoor

namespace Go.Proofs.YtgchgdkpipanjaaGreatDoor
open Go Go.RowKit Go.Lib Go.Sort

/-- What the insertion sort of a part leaves. -/
def InsPost (w0 : World) (blk off : Nat) (lt : FileB → FileB → Bool) (a b : Nat) (d : Array FileB) (e : Ending) (w' : World) : Prop :=
  e = .returned (.tuple #[]) ∧ ∃ d', SWF w0 blk off d' w' ∧ PermIn a b d d' ∧ SortedIn lt a b d'

set_option maxHeartbeats 4000000 in
set_option maxRecDepth 100000 in
theorem stable_any (cf : FileB → FileB → Int) (g : Nat) (cb : Array Value) (eg : ∀ args w, (callFunc g args).run Tryz.prog w = .ok (.enter g args) w) (hO : SWO (ltOf cf)) (blk off cap : Nat) (d0 : Array FileB) (w0 : World)
    (hC : CmpLays Tryz.prog g cb encFile 3 cf blk off d0.size w0) (R : RowF w0 blk off d0) (hsz : d0.size < 1000000)
    (hI : ∀ (a b : Nat) (d : Array FileB) (w : World), d.size = d0.size → SWF w0 blk off d w → a ≤ b → b ≤ d.size → Calls Tryz.prog 244 #[.slice (some ⟨blk, off, none⟩) d.size cap, .int .i64 a, .int .i64 b, .func (.func g) #[] cb] w (InsPost w0 blk off (ltOf cf) a b d)) :
    Calls Tryz.prog 232 #[.slice (some ⟨blk, off, none⟩) d0.size cap, .int .i64 d0.size, .func (.func g) #[] cb] w0 fun e w' => e = .returned (.tuple #[]) ∧ ∃ d', SWF w0 blk off d' w' ∧ PermIn 0 d0.size d0 d' ∧ SortedIn (ltOf cf) 0 d0.size d' := by
  have S0 : Hid (SWF w0 blk off d0 w0) := SWK.start R.hH
  have HI : Aside _ := hI
  have HM : Aside _ := symMerge_all cf g cb eg hO blk off cap d0 w0 hC R (by omega)
  obtain ⟨n, hn⟩ : ∃ n, d0.size = n := ⟨_, rfl⟩
  have P0 : Hid (PermIn 0 n d0 d0) := permIn_refl d0 0 n
  have HN := Lib.hid hn
  have mixed : Tryz.prog.follows .mixedOrders = true := by kernel_rfl
  rw [hn] at hsz ⊢
  clear hC R hO hI hn
  go_enter Tryz.func232, Tryz.ntmps232
  go_wp2_with fail
  go_loopg [7, 8] n (fun g1 va vb wr => ∃ (a : Nat) (dk : Array FileB), va = .int .i64 a ∧ vb = .int .i64 ((a : Int) + 20) ∧ a ≤ n ∧ n - a ≤ g1 ∧ Hid (20 ∣ a) ∧ Hid (dk.size = n) ∧ Hid (SWF w0 blk off dk wr) ∧ Hid (PermIn 0 n d0 dk) ∧ Hid (BlkIn (ltOf cf) 20 n 0 a dk))
  case atStart => exact ⟨0, d0, rfl, rfl, Nat.zero_le _, Nat.le_refl _, Nat.dvd_zero 20, HN, S0, P0, BlkIn.none _ _ _ _ _⟩
  case round =>
    clear S0
    obtain ⟨a, dk, rfl, rfl, han, hg, HA, HK, S1, H1, H2⟩ := hrel
    by_cases hlt : a + 20 ≤ n
    · have hlt2 : (a : Int) + 20 ≤ (n : Int) := by omega
      have C := HI.out a (a + 20) dk wr (HK.out.trans HN.out.symm) S1.out (by omega) (by rw [HK.out]; exact hlt)
      rw [HK.out, show ((a + 20 : Nat) : Int) = (a : Int) + 20 by omega] at C
      have C := Lib.hid C
      go_wp2_with fail
      refine C.out.mono ?_
      rintro e w2 ⟨rfl, d1, S2, G1, G2⟩
      have S2 := Lib.hid S2
      have hd1 := Lib.hid (G1.1.trans HK.out)
      have F1 : Hid (PermIn 0 n d0 d1) := permIn_trans _ _ _ _ _ H1.out (permIn_mono _ _ a (a + 20) 0 n (Nat.zero_le _) hlt (by rw [HK.out]; exact Nat.le_refl _) G1)
      have F2 : Hid (BlkIn (ltOf cf) 20 n 0 (a + 20) d1) := BlkIn.next H2.out HA.out G1 G2 (by omega) (by omega)
      have F3 : Hid (20 ∣ a + 20) := Nat.dvd_add HA.out (Nat.dvd_refl 20)
      clear G1 G2 C S1 H1 H2 HK
      go_wp2_with fail
      go_roundg (n - (a + 20))
      case measure => omega
      case rel => exact ⟨a + 20, d1, by go_num, by go_num, by omega, Nat.le_refl _, F3, hd1, S2, F1, F2⟩
    · have hlt2 : ¬ (a : Int) + 20 ≤ (n : Int) := by omega
      have C := HI.out a n dk wr (HK.out.trans HN.out.symm) S1.out han (by rw [HK.out]; exact Nat.le_refl _)
      rw [HK.out] at C
      have C := Lib.hid C
      go_wp2_with fail
      refine C.out.mono ?_
      rintro e w2 ⟨rfl, d1, S2, G1, G2⟩
      have S2 := Lib.hid S2
      have hd1 := Lib.hid (G1.1.trans HK.out)
      have F1 : Hid (PermIn 0 n d0 d1) := permIn_trans _ _ _ _ _ H1.out (permIn_mono _ _ a n 0 n (Nat.zero_le _) (Nat.le_refl _) (by rw [HK.out]; exact Nat.le_refl _) G1)
      have F2 : Hid (BlkIn (ltOf cf) 20 n 0 n d1) := fun x hx h1 h2 => BlkIn.next H2.out HA.out G1 G2 (by omega) (by omega) x hx h1 (by omega)
      clear G1 G2 C S1 H1 H2 HK HA han hg hlt hlt2
      go_wp2_with fail
      go_loopg [6, 7, 8, 9] n (fun g1 vbs v7 v8 v9 wr => ∃ (bs : Nat) (dk : Array FileB), vbs = .int .i64 bs ∧ 0 < bs ∧ bs ≤ 2 * n + 20 ∧ n - bs ≤ g1 ∧ Hid (dk.size = n) ∧ Hid (SWF w0 blk off dk wr) ∧ Hid (PermIn 0 n d0 dk) ∧ Hid (BlkIn (ltOf cf) bs n 0 n dk))
      case atStart => exact ⟨20, d1, rfl, by omega, by omega, by omega, hd1, S2, F1, F2⟩
      case round =>
        clear S2 F1 F2 hd1
        obtain ⟨bs, dk, rfl, hb0, hbn, hg, HK, S1, H1, H2⟩ := hrel
        by_cases hlt : bs < n
        · have H3 : Hid (BlkIn (ltOf cf) (2 * bs) n 0 0 dk) := BlkIn.none _ _ _ _ _
          go_wp2_with fail
          go_loopg [7, 8] n (fun g2 va vb wr => ∃ (a : Nat) (dk : Array FileB), va = .int .i64 a ∧ vb = .int .i64 ((a : Int) + 2 * (bs : Int)) ∧ a ≤ n ∧ n - a ≤ g2 ∧ Hid (2 * bs ∣ a) ∧ Hid (dk.size = n) ∧ Hid (SWF w0 blk off dk wr) ∧ Hid (PermIn 0 n d0 dk) ∧ Hid (BlkIn (ltOf cf) (2 * bs) n 0 a dk) ∧ Hid (BlkIn (ltOf cf) bs n a n dk))
          case atStart => exact ⟨0, dk, rfl, by go_num, Nat.zero_le _, Nat.le_refl _, Nat.dvd_zero _, HK, S1, H1, H3, H2⟩
          case round =>
            clear S1 H1 H2 H3 HK
            obtain ⟨a, dk, rfl, rfl, han, hg2, HA, HK, S1, H1, H2, H3⟩ := hrel
            have HB := Lib.hid (Nat.dvd_trans (Nat.dvd_mul_left bs 2) HA.out)
            by_cases hlt3 : a + 2 * bs ≤ n
            · have hlt2 : (a : Int) + 2 * (bs : Int) ≤ (n : Int) := by omega
              have s1 := H3.out a HB.out (Nat.le_refl _) (by omega)
              have s2 := H3.out (a + bs) (Nat.dvd_add HB.out (Nat.dvd_refl bs)) (by omega) (by omega)
              rw [show min (a + bs) n = a + bs by omega] at s1
              rw [show min (a + bs + bs) n = a + 2 * bs by omega] at s2
              have C := HM.out (2 * bs) a (a + bs) (a + 2 * bs) dk wr (by omega) (by omega) (by omega) (by rw [HK.out]; exact hlt3) (HK.out.trans HN.out.symm) S1.out s1 s2
              rw [HK.out, show ((a + bs : Nat) : Int) = (a : Int) + (bs : Int) by omega, show ((a + 2 * bs : Nat) : Int) = (a : Int) + 2 * (bs : Int) by omega] at C
              have C := Lib.hid C
              clear s1 s2
              go_wp2_with fail
              refine C.out.mono ?_
              rintro e w2 ⟨rfl, d1, S2, G1, G2⟩
              have S2 := Lib.hid S2
              have G1 := G1 a (a + 2 * bs) (Nat.le_refl _) (Nat.le_refl _) (by rw [HK.out]; exact hlt3)
              have hd1 := Lib.hid (G1.1.trans HK.out)
              have F1 : Hid (PermIn 0 n d0 d1) := permIn_trans _ _ _ _ _ H1.out (permIn_mono _ _ a (a + 2 * bs) 0 n (Nat.zero_le _) hlt3 (by rw [HK.out]; exact Nat.le_refl _) G1)
              have F2 : Hid (BlkIn (ltOf cf) (2 * bs) n 0 (a + 2 * bs) d1) := BlkIn.next H2.out HA.out G1 G2 (by omega) (by omega)
              have F3 : Hid (2 * bs ∣ a + 2 * bs) := Nat.dvd_add HA.out (Nat.dvd_refl _)
              have F4 : Hid (BlkIn (ltOf cf) bs n (a + 2 * bs) n d1) := BlkIn.rest H3.out (by omega) G1
              clear G1 G2 C S1 H1 H2 H3 HK HB
              go_wp2_with fail
              go_roundg (n - (a + 2 * bs))
              case measure => omega
              case rel => exact ⟨a + 2 * bs, d1, by go_num, by go_num, by omega, Nat.le_refl _, F3, hd1, S2, F1, F2, F4⟩
            · have hlt2 : ¬ (a : Int) + 2 * (bs : Int) ≤ (n : Int) := by omega
              by_cases hm : a + bs < n
              · have hm2 : (a : Int) + (bs : Int) < (n : Int) := by omega
                have s1 := H3.out a HB.out (Nat.le_refl _) (by omega)
                have s2 := H3.out (a + bs) (Nat.dvd_add HB.out (Nat.dvd_refl bs)) (by omega) (by omega)
                rw [show min (a + bs) n = a + bs by omega] at s1
                rw [show min (a + bs + bs) n = n by omega] at s2
                have C := HM.out (2 * bs) a (a + bs) n dk wr (by omega) (by omega) hm (by rw [HK.out]; exact Nat.le_refl _) (HK.out.trans HN.out.symm) S1.out s1 s2
                rw [HK.out, show ((a + bs : Nat) : Int) = (a : Int) + (bs : Int) by omega] at C
                have C := Lib.hid C
                clear s1 s2
                go_wp2_with fail
                refine C.out.mono ?_
                rintro e w2 ⟨rfl, d1, S2, G1, G2⟩
                have S2 := Lib.hid S2
                have G1 := G1 a n (Nat.le_refl _) (Nat.le_refl _) (by rw [HK.out]; exact Nat.le_refl _)
                have hd1 := Lib.hid (G1.1.trans HK.out)
                have F1 : Hid (PermIn 0 n d0 d1) := permIn_trans _ _ _ _ _ H1.out (permIn_mono _ _ a n 0 n (Nat.zero_le _) (Nat.le_refl _) (by rw [HK.out]; exact Nat.le_refl _) G1)
                have F2 : Hid (BlkIn (ltOf cf) (bs * 2) n 0 n d1) := fun x hx h1 h2 => by
                  rw [Nat.mul_comm] at hx ⊢
                  exact BlkIn.next H2.out HA.out G1 G2 (by omega) (by omega) x hx h1 (by omega)
                clear G1 G2 C S1 H1 H2 H3 HK HB HA
                go_wp2_with fail
                go_roundg (n - bs * 2)
                case measure => omega
                case rel => exact ⟨bs * 2, d1, by go_num, by omega, by omega, Nat.le_refl _, hd1, S2, F1, F2⟩
              · have hm2 : ¬ (a : Int) + (bs : Int) < (n : Int) := by omega
                have F2 : Hid (BlkIn (ltOf cf) (bs * 2) n 0 n dk) := fun x hx h1 h2 => by
                  rw [Nat.mul_comm] at hx ⊢
                  by_cases ha : a < n
                  · have s1 := H3.out a HB.out (Nat.le_refl _) ha
                    exact BlkIn.next H2.out HA.out (permIn_refl dk a n) (sorted_part s1 (Nat.le_refl _) (by omega)) (by omega) (by omega) x hx h1 (by omega)
                  · exact H2.out x hx h1 (by omega)
                clear H2 H3 HB HA
                go_wp2_with fail
                go_roundg (n - bs * 2)
                case measure => omega
                case rel => exact ⟨bs * 2, dk, by go_num, by omega, by omega, Nat.le_refl _, HK, S1, H1, F2⟩
        · have s := H2.out 0 (Nat.dvd_zero bs) (Nat.le_refl _)
          have R3 : Hid (SortedIn (ltOf cf) 0 n dk) := by
            by_cases h0 : 0 < n
            · have := s h0; rwa [show min (0 + bs) n = n by omega] at this
            · exact sorted_none (by omega) _
          clear s H2
          go_wp2_with fail
          go_end0
          exact ⟨rfl, dk, S1.out, H1.out, R3.out⟩
end Go.Proofs.YtgchgdkpipanjaaGreatDoor

namespace Go.Proofs
open Go.Shelf
def Tryz.laysF20_ren : Go.Shelf.Ren := ⟨fun | 20 => 244 | n => n, fun | 24 => 109 | 22 => 48 | 3 => 3 | 25 => 202 | 4 => 4 | 0 => 0 | n => n, fun | n => n⟩
theorem Tryz.laysF20 : Go.Proofs.SlLaysF0.n20 Tryz.prog Tryz.laysF20_ren := {
  mixed := by kernel_rfl
  f20 := ⟨Tryz.f244.name, by decide, Tryz.func244.trans (congrArg some (by kernel_rfl))⟩
  t0 := Tryz.underlying0
  a0 := Tryz.isAgg0
  z0 := Tryz.sizeOf0
  v0 := Tryz.zeroValue0
  t3 := Tryz.underlying3
  a3 := Tryz.isAgg3
  z3 := Tryz.sizeOf3
  v3 := Tryz.zeroValue3
  t4 := Tryz.underlying4
  a4 := Tryz.isAgg4
  z4 := Tryz.sizeOf4
  v4 := Tryz.zeroValue4
  t22 := Tryz.underlying48
  a22 := Tryz.isAgg48
  z22 := Tryz.sizeOf48
  v22 := Tryz.zeroValue48
  t25 := Tryz.underlying202
  a25 := Tryz.isAgg202
  z25 := Tryz.sizeOf202
  v25 := Tryz.zeroValue202 }

end Go.Proofs

namespace Go.Proofs.YtgchgdkpipanjaaGreatDoor
open Go Go.Shelf Go.RowKit Go.Lib Go.Sort

theorem insertion_any (cf : FileB → FileB → Int) (g : Nat) (cb : Array Value) (eg : ∀ args w, (callFunc g args).run Tryz.prog w = .ok (.enter g args) w) (hO : SWO (ltOf cf)) (blk off cap : Nat) (d0 : Array FileB) (w0 : World)
    (hC : CmpLays Tryz.prog g cb encFile 3 cf blk off d0.size w0) (R : RowF w0 blk off d0) (hsz : d0.size < 1000000) (a b : Nat) (d : Array FileB) (w : World) (hs : d.size = d0.size) (S : SWF w0 blk off d w) (hab : a ≤ b) (hb : b ≤ d.size) :
    Calls Tryz.prog 244 #[.slice (some ⟨blk, off, none⟩) d.size cap, .int .i64 a, .int .i64 b, .func (.func g) #[] cb] w (InsPost w0 blk off (ltOf cf) a b d) := by
  have hins := insertionSort_holds hO d a b hab hb
  have hC' : CmpLays Tryz.prog g cb encFile 3 cf blk off d.size w := fun m os dk hdk x y => by
    obtain ⟨n0, os0, rfl⟩ := S
    rw [sortWorldK_on encFile 3 w0 blk off n0 m d dk os0 os R.hblk hdk]
    exact hC _ _ dk (hdk.trans hs) x y
  refine (AnyQ.insertionSortCmpFunc (P := Tryz.prog) (ρ := Tryz.laysF20_ren) Tryz.laysF20 3 Tryz.isAgg109 Tryz.sizeOf109 encFile R.hk R.h1 cf g cb blk off cap a b d w eg hC' (S.holds R.hblk R.hH hs) (S.lt R.hblk) hab hb (by omega)).mono ?_
  rintro e w' ⟨rfl, n, os, rfl⟩
  exact ⟨rfl, _, S.on R.hblk n _ os hins.1.1, hins.1, hins.2⟩

theorem sortStable_any (cf : FileB → FileB → Int) (g : Nat) (cb : Array Value) (eg : ∀ args w, (callFunc g args).run Tryz.prog w = .ok (.enter g args) w) (hO : SWO (ltOf cf)) (blk off cap : Nat) (d0 : Array FileB) (w0 : World)
    (hC : CmpLays Tryz.prog g cb encFile 3 cf blk off d0.size w0) (R : RowF w0 blk off d0) (hsz : d0.size < 1000000) :
    Calls Tryz.prog 200 #[.slice (some ⟨blk, off, none⟩) d0.size cap, .func (.func g) #[] cb] w0 fun e w' => e = .returned (.tuple #[]) ∧ ∃ d', SWF w0 blk off d' w' ∧ PermIn 0 d0.size d0 d' ∧ SortedIn (ltOf cf) 0 d0.size d' := by
  have C := Lib.hid (stable_any cf g cb eg hO blk off cap d0 w0 hC R hsz (fun a b d w hs S hab hb => insertion_any cf g cb eg hO blk off cap d0 w0 hC R hsz a b d w hs S hab hb))
  clear hO hC R
  go_enter Tryz.func200, Tryz.ntmps200
  go_wp2_with fail
  refine C.out.mono ?_
  rintro e w' ⟨rfl, d', h1, h2, h3⟩
  go_wp2_with fail
  go_end0
  exact ⟨rfl, d', h1, h2, h3⟩
end Go.Proofs.YtgchgdkpipanjaaGreatDoor
