/- slices.BinarySearchFunc by tree.compare, over files in order: the contract. -/
import Derived.Test.YtamimigpnhblmaaGreatDoorJSortOwn
import Derived.Test.YtamimigpnhblmaaGreatDoorJTreePlains
namespace Go.Proofs.YtamimigpnhblmaaGreatDoor
open Go Go.RowKit Go.Lib Go.Sort

/-- Where a file goes. -/
def putIx (l : List FileB) (f : FileB) : Nat := (l.takeWhile fun g => decide (pLt g f)).length
theorem putIx_eq {l : List FileB} {f : FileB} {k : Nat} (hk : k ≤ l.length) (h1 : ∀ t, (h : t < l.length) → t < k → pLt l[t] f) (h2 : ∀ t, (h : t < l.length) → k ≤ t → ¬ pLt l[t] f) : putIx l f = k := by
  unfold putIx
  induction l generalizing k with
  | nil => simp at hk; simp [hk]
  | cons a r ih =>
    cases k with
    | zero =>
      have := h2 0 (by simp) (Nat.le_refl _)
      rw [List.takeWhile_cons, if_neg (by simpa using this)]
      rfl
    | succ k =>
      have := h1 0 (by simp) (Nat.succ_pos _)
      rw [List.takeWhile_cons, if_pos (by simpa using this), List.length_cons, ih (k := k) (by simpa using hk) (fun t h ht => h1 (t + 1) (by simpa using h) (by omega)) (fun t h ht => h2 (t + 1) (by simpa using h) (by omega))]
def SearchPost (l : List FileB) (f : FileB) (w : World) (e : Ending) (w' : World) : Prop :=
  e = .returned (.tuple #[.int .i64 (putIx l f), .bool (decide (((l.drop (putIx l f)).head?.map (fun g => decide (g.path = f.path))) = some true))]) ∧ Below w.heap.size w w'
theorem grow_below {w : World} (n : Nat) (os : Array Obj) : Below w.heap.size w (grow (w.drewN n) os) := by
  refine ⟨rfl, rfl, rfl, by show w.heap.size ≤ (w.heap ++ os).size; simp, fun k hk => ?_⟩
  show (w.heap ++ os)[k]? = _
  rw [Array.getElem?_append, if_pos hk]

set_option maxHeartbeats 2000000 in
set_option maxRecDepth 100000 in
theorem search_gen (f : FileB) (g : Nat) (eg : ∀ args w, (callFunc g args).run Tryz.prog w = .ok (.enter g args) w) (hcmp : ∀ (x : FileB) (w : World), Calls Tryz.prog g (#[.agg (encFile x).toArray, .agg (encFile f).toArray] ++ #[]) w fun e w' => e = .returned (.int .i64 (cfP x f)) ∧ ∃ q os', w' = grow (w.drewN q) os') (v : Value) (l : List FileB) (w : World) (hl : l.length ≤ 10000) (hv : FRow w v l) (hA : Strict l) :
    Calls Tryz.prog 54 #[v, .agg (encFile f).toArray, .func (.func g) #[] #[]] w (SearchPost l f w) := by
  have HG : Aside _ := hcmp
  clear hcmp
  obtain ⟨ao, cap, rfl, h1, h2, H3⟩ := hv
  have HM := Lib.hid H3
  have HA := Lib.hid hA
  have mixed : Tryz.prog.follows .mixedOrders = true := by kernel_rfl
  clear H3 hA
  obtain ⟨n, hn⟩ : ∃ n, l.length = n := ⟨_, rfl⟩
  have HN := Lib.hid hn
  rw [hn] at h1 hl ⊢
  rw [maxLen_eq] at h2
  clear hn
  obtain ⟨tb, htb⟩ : ∃ tb, w.heap.size = tb := ⟨_, rfl⟩
  have hB : Below w.heap.size w (w.alloc (.cells (encFile f).toArray 24)) := (Below.refl _ w).alloc (Nat.le_refl _) _
  have hT : (w.alloc (.cells (encFile f).toArray 24)).heap[tb]? = some (.cells (encFile f).toArray 24 (0, 0)) := by rw [← htb]; exact heap_alloc_new w _
  have HT0 := Lib.hid hT
  have HB0 := Lib.hid hB
  have HTB := Lib.hid htb
  clear hT hB htb
  go_enter Tryz.func54, Tryz.ntmps54
  go_wp2_with fail
  rw [HTB.out]
  go_loopg [9, 10] n (fun kx s9 s10 wr => ∃ lo hi : Nat, s9 = .int .i64 lo ∧ s10 = .int .i64 hi ∧ lo ≤ hi ∧ hi ≤ n ∧ hi - lo ≤ kx ∧ Hid (Below w.heap.size w wr) ∧ Hid (wr.heap[tb]? = some (.cells (encFile f).toArray 24 (0, 0))) ∧
    Hid (∀ t, (h : t < l.length) → t < lo → pLt l[t] f) ∧ Hid (∀ t, (h : t < l.length) → hi ≤ t → ¬ pLt l[t] f))
  case atStart => exact ⟨0, n, rfl, rfl, Nat.zero_le _, Nat.le_refl _, Nat.le_refl _, HB0, HT0, fun t _ h => absurd h (Nat.not_lt_zero _), fun t h h3 => absurd h (by have := HN.out; omega)⟩
  case round =>
    obtain ⟨lo, hi, rfl, rfl, hlh, hin, hg, HB, HT, H1, H2⟩ := hrel
    clear HB0 HT0
    have wcells : ∀ k, (hk : k < l.length) → ∃ b off, ao = some ⟨b, off, none⟩ ∧ ∀ W : World, Below w.heap.size w W → W.cell? ⟨b, off + k * 3, none⟩ = some (.string l[k].path) ∧ W.cell? ⟨b, off + k * 3 + 1, none⟩ = some (.bool l[k].run) ∧ W.cell? ⟨b, off + k * 3 + 2, none⟩ = some (.string l[k].text) := by
      intro k hk
      obtain ⟨b, off, rfl, hbl, hcell⟩ := HM.out k hk
      obtain ⟨q0, q1, q2⟩ := hcell k hk
      refine ⟨b, off, rfl, fun W hW => ?_⟩
      rw [hW.cell (p := ⟨b, off + k * 3, none⟩) hbl, hW.cell (p := ⟨b, off + k * 3 + 1, none⟩) hbl, hW.cell (p := ⟨b, off + k * 3 + 2, none⟩) hbl]
      exact ⟨q0, q1, q2⟩
    have tcells : ∀ (q : Nat) (os : Array Obj), (grow (wr.drewN q) os).cell? ⟨tb, 0, none⟩ = some (.string f.path) ∧ (grow (wr.drewN q) os).cell? ⟨tb, 1, none⟩ = some (.bool f.run) ∧ (grow (wr.drewN q) os).cell? ⟨tb, 2, none⟩ = some (.string f.text) := by
      intro q os
      have hh : (grow (wr.drewN q) os).heap[tb]? = some (.cells (encFile f).toArray 24 (0, 0)) := ((grow_below (w := wr) q os).block tb (Array.getElem?_eq_some_iff.1 HT.out).1).trans HT.out
      simp [World.cell?, hh]
    have WC := Lib.hid wcells
    clear wcells
    have ly0 := fun q os => (tcells q os).1
    have ly1 := fun q os => (tcells q os).2.1
    have ly2 := fun q os => (tcells q os).2.2
    clear tcells
    by_cases hlt : lo < hi
    · obtain ⟨q, hq⟩ : ∃ q, (lo + hi) / 2 = q := ⟨_, rfl⟩
      have eq1 : ((lo : Int) + (hi : Int)) / 2 = (q : Int) := by omega
      have EQ := Lib.hid eq1
      have e1 : (((lo : Int) + (hi : Int)) / 2).toNat = q := by omega
      have p1 : (0 : Int) ≤ ((lo : Int) + (hi : Int)) / 2 := by omega
      have b1 : ((lo : Int) + (hi : Int)) / 2 < (n : Int) := by omega
      have hqi : lo ≤ q := by omega
      have hqj : q < hi := by omega
      have hqn : q < l.length := by rw [HN.out]; omega
      obtain ⟨b, off, rfl, wc⟩ := WC.out q hqn
      have lx0 := fun m os => (wc (grow (wr.drewN m) os) (HB.out.trans ((grow_below m os).mono HB.out.size))).1
      have lx1 := fun m os => (wc (grow (wr.drewN m) os) (HB.out.trans ((grow_below m os).mono HB.out.size))).2.1
      have lx2 := fun m os => (wc (grow (wr.drewN m) os) (HB.out.trans ((grow_below m os).mono HB.out.size))).2.2
      have hc : ∀ m os, _ := fun m os => HG.out l[q] (grow (wr.drewN m) os)
      have HCM := Lib.hid hc
      clear hc hq eq1 wc
      by_cases hv : cfP l[q] f < 0
      · have hp : pLt l[q] f := (cmp_lt _ _).1.1 hv
        have H5 : Hid (∀ t, (h : t < l.length) → t < q + 1 → pLt l[t] f) := fun t h ht => by
          by_cases e : t = q
          · subst e; exact hp
          · exact ((List.pairwise_iff_getElem.1 HA.out) t q h hqn (by omega)).trans hp
        generalize l[q] = fq at lx0 lx1 lx2 HCM hv hp
        clear H1 hp
        go_wp2_with fail
        go_quiet_grown (first | (go_at_fn g; refine Calls.grown_of (HCM.out _ _)))
        have HB2 := Lib.hid (HB.out.trans ((grow_below nq osq).mono HB.out.size))
        have HT2 : Hid ((grow (wr.drewN nq) osq).heap[tb]? = some (.cells (encFile f).toArray 24 (0, 0))) := ((grow_below (w := wr) nq osq).block tb (Array.getElem?_eq_some_iff.1 HT.out).1).trans HT.out
        generalize grow (wr.drewN nq) osq = wv at HB2 HT2 ⊢
        clear lx0 lx1 lx2 ly0 ly1 ly2 HCM HB HT
        go_wp2_with fail
        go_roundg (hi - (q + 1))
        case measure => omega
        case rel => exact ⟨q + 1, hi, by rw [EQ.out]; go_num, rfl, by omega, hin, Nat.le_refl _, HB2, HT2, H5, H2⟩
      · have hp : ¬ pLt l[q] f := fun h => hv ((cmp_lt _ _).1.2 h)
        have H5 : Hid (∀ t, (h : t < l.length) → q ≤ t → ¬ pLt l[t] f) := fun t h ht hn2 => by
          by_cases e : t = q
          · subst e; exact hp hn2
          · exact hp (((List.pairwise_iff_getElem.1 HA.out) q t hqn h (by omega)).trans hn2)
        have hvf : decide (cfP l[q] f < 0) = false := decide_eq_false hv
        generalize l[q] = fq at lx0 lx1 lx2 HCM hv hp hvf
        clear H2 hp
        go_wp2_with fail
        go_quiet_grown (first | (go_at_fn g; refine Calls.grown_of (HCM.out _ _)))
        have HB2 := Lib.hid (HB.out.trans ((grow_below nq osq).mono HB.out.size))
        have HT2 : Hid ((grow (wr.drewN nq) osq).heap[tb]? = some (.cells (encFile f).toArray 24 (0, 0))) := ((grow_below (w := wr) nq osq).block tb (Array.getElem?_eq_some_iff.1 HT.out).1).trans HT.out
        generalize grow (wr.drewN nq) osq = wv at HB2 HT2 ⊢
        clear lx0 lx1 lx2 ly0 ly1 ly2 HCM HB HT
        go_wp2_with fail
        go_roundg (q - lo)
        case measure => omega
        case rel => exact ⟨lo, q, rfl, by rw [EQ.out], hqi, by omega, Nat.le_refl _, HB2, HT2, H1, H5⟩
    · obtain rfl : lo = hi := by omega
      have HIX := Lib.hid (putIx_eq (by rw [HN.out]; exact hin) H1.out H2.out)
      by_cases hn : lo < n
      · have hqn : lo < l.length := by rw [HN.out]; exact hn
        obtain ⟨b, off, rfl, wc⟩ := WC.out lo hqn
        have lx0 := fun m os => (wc (grow (wr.drewN m) os) (HB.out.trans ((grow_below m os).mono HB.out.size))).1
        have lx1 := fun m os => (wc (grow (wr.drewN m) os) (HB.out.trans ((grow_below m os).mono HB.out.size))).2.1
        have lx2 := fun m os => (wc (grow (wr.drewN m) os) (HB.out.trans ((grow_below m os).mono HB.out.size))).2.2
        have hc : ∀ m os, _ := fun m os => HG.out l[lo] (grow (wr.drewN m) os)
        have HCM := Lib.hid hc
        have HR : Hid (decide (((l.drop lo).head?.map (fun g => decide (g.path = f.path))) = some true) = decide (cfP l[lo] f = 0)) := by
          show _ = _
          refine decide_eq_decide.2 ?_
          rw [List.head?_drop, List.getElem?_eq_getElem hqn]
          simp only [Option.map_some, Option.some.injEq, decide_eq_true_iff]
          exact ⟨fun e => (cmp_lt _ _).2.2 (by rw [e]), fun e => bl_inj ((cmp_lt _ _).2.1 e)⟩
        clear hc wc WC H1 H2
        generalize l[lo] = fq at lx0 lx1 lx2 HCM HR
        obtain ⟨cv, hcv⟩ : ∃ cv, cfP fq f = cv := ⟨_, rfl⟩
        rw [hcv] at HR
        have HCV : Hid (∀ m os, Calls Tryz.prog g (#[.agg (encFile fq).toArray, .agg (encFile f).toArray] ++ #[]) (grow (wr.drewN m) os) fun e w' => e = .returned (.int .i64 cv) ∧ ∃ q os', w' = grow ((grow (wr.drewN m) os).drewN q) os') := by
          intro m os
          have := HCM.out m os
          rw [hcv] at this; exact this
        clear HCM hcv
        go_wp2_with fail
        go_quiet_grown (first | (go_at_fn g; refine Calls.grown_of (HCV.out _ _)))
        have HB2 := Lib.hid (HB.out.trans ((grow_below nq osq).mono HB.out.size))
        generalize grow (wr.drewN nq) osq = wv at HB2 ⊢
        clear lx0 lx1 lx2 ly0 ly1 ly2 HCV HB HT
        go_wp2_with fail
        go_ret2
        refine ⟨?_, HB2.out⟩
        rw [HIX.out, HR.out]
        rfl
      · have HR : Hid ((l.drop lo).head? = none) := by show _ = _; rw [List.drop_eq_nil_of_le (by have := HN.out; omega)]; rfl
        clear ly0 ly1 ly2
        go_wp2_with fail
        go_quiet (fail)
        have HB2 := Lib.hid (HB.out.trans ((below_drewN wr.heap.size wr nq).mono HB.out.size))
        go_wp2_with fail
        go_ret2
        refine ⟨?_, HB2.out⟩
        rw [HIX.out, HR.out]
        rfl

theorem search_any (f : FileB) (v : Value) (l : List FileB) (w : World) (hl : l.length ≤ 10000) (hv : FRow w v l) (hA : Strict l) :
    Calls Tryz.prog 54 #[v, .agg (encFile f).toArray, .func (.func 53) #[] #[]] w (SearchPost l f w) :=
  search_gen f 53 (enters_of Tryz.func53 (by kernel_rfl) rfl) (fun x w => compare_grow x f w) v l w hl hv hA
end Go.Proofs.YtamimigpnhblmaaGreatDoor
