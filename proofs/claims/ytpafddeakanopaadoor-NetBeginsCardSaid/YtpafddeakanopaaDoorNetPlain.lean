/- The net, in plain Lean: what is at links, which hosts are off. -/
import Derived.Test.YtpafddeakanopaaDoorPathPlain
namespace Go.Proofs.YtpafddeakanopaaDoor
open Go

/-- What is at a link: its text, and where it is cut (-1: nowhere). -/
structure SiteB where
  url : ByteArray
  text : ByteArray
  cut : Int
/-- A net: sites in the order in which they came, hosts that are off. -/
structure NetB where
  sites : List SiteB
  off : List ByteArray
  calls : Nat

def siteAt (u : ByteArray) : List SiteB → Option SiteB
  | [] => none
  | x :: l => if x.url = u then some x else siteAt u l
def siteIx (u : ByteArray) : List SiteB → Option Nat
  | [] => none
  | x :: l => if x.url = u then some 0 else (siteIx u l).map (· + 1)
def setSite (u s : ByteArray) (c : Int) : List SiteB → List SiteB
  | [] => []
  | x :: l => if x.url = u then ⟨x.url, s, c⟩ :: l else x :: setSite u s c l
def setCut (u : ByteArray) (c : Int) : List SiteB → List SiteB
  | [] => []
  | x :: l => if x.url = u then ⟨x.url, x.text, c⟩ :: l else x :: setCut u c l

/-- Put: the error's number, the net behind it. -/
def putN (n : NetB) (u s : ByteArray) : Nat × NetB :=
  if linkE (bl u) ≠ 0 then (linkE (bl u), n)
  else if 20000 < s.size then (2, n)
  else match siteAt u n.sites with
    | some _ => (0, { n with sites := setSite u s (-1) n.sites })
    | none => if 60 ≤ n.sites.length then (8, n) else (0, { n with sites := n.sites ++ [⟨u, s, -1⟩] })
def hostN (n : NetB) (h : ByteArray) (on : Bool) : Nat × NetB :=
  if partB (bl h) then (0, { n with off := n.off.filter (fun x => x ≠ h) ++ (if on then [] else [h]) }) else (5, n)
def cutN (n : NetB) (u : ByteArray) (k : Int) : Nat × NetB :=
  match siteAt u n.sites with
  | none => (6, n)
  | some _ => if k < 0 then (2, n) else (0, { n with sites := setCut u k n.sites })
/-- Get: text, number, net. -/
def cutText (s : ByteArray) (c : Int) : List UInt8 := if 0 ≤ c ∧ c < s.size then (bl s).take c.toNat else bl s
def getN (n : NetB) (u : ByteArray) : List UInt8 × Nat × NetB :=
  if linkE (bl u) ≠ 0 then ([], linkE (bl u), n)
  else if (n.off.map bl).contains (lkH (bl u)) then ([], 13, { n with calls := n.calls + 1 })
  else match siteAt u n.sites with
    | none => ([], 6, { n with calls := n.calls + 1 })
    | some x => (cutText x.text x.cut, 0, { n with calls := n.calls + 1 })

theorem siteIx_at {u : ByteArray} : ∀ {l : List SiteB}, (siteIx u l).isSome = (siteAt u l).isSome
  | [] => rfl
  | x :: l => by
    unfold siteIx siteAt
    split
    · rfl
    · rw [Option.isSome_map, siteIx_at]
/-- The index at which it is found. -/
theorem siteIx_spec {u : ByteArray} : ∀ {l : List SiteB} {k : Nat}, siteIx u l = some k → ∃ h : k < l.length, l[k].url = u ∧ siteAt u l = some l[k] ∧ (∀ j, (hj : j < k) → l[j].url ≠ u) ∧
    (∀ s c, setSite u s c l = l.set k ⟨l[k].url, s, c⟩) ∧ ∀ c, setCut u c l = l.set k ⟨l[k].url, l[k].text, c⟩
  | [], k, h => by cases h
  | x :: l, k, h => by
    unfold siteIx at h
    split at h
    · rename_i hx
      cases h
      exact ⟨by simp, hx, by simp [siteAt, hx], fun j hj => absurd hj (Nat.not_lt_zero _), fun s c => by simp [setSite, hx], fun c => by simp [setCut, hx]⟩
    · rename_i hx
      obtain ⟨k', hk', rfl⟩ := Option.map_eq_some_iff.1 h
      obtain ⟨h1, h2, h3, h4, h5, h6⟩ := siteIx_spec hk'
      refine ⟨by simpa using h1, by simpa using h2, by simp [siteAt, hx, h3], fun j hj => ?_, fun s c => by simp [setSite, hx, h5], fun c => by simp [setCut, hx, h6]⟩
      cases j with
      | zero => exact hx
      | succ j => simpa using h4 j (by omega)
theorem siteAt_none {u : ByteArray} : ∀ {l : List SiteB}, siteAt u l = none ↔ ∀ x ∈ l, x.url ≠ u
  | [] => by simp [siteAt]
  | x :: l => by
    unfold siteAt
    split
    · rename_i h; simp [h]
    · rename_i h; rw [siteAt_none]; simp [h]
theorem siteIx_none {u : ByteArray} {l : List SiteB} : siteIx u l = none ↔ siteAt u l = none := by
  have := siteIx_at (u := u) (l := l)
  cases h1 : siteIx u l <;> cases h2 : siteAt u l <;> simp [h1, h2] at this ⊢
theorem siteAt_url {u : ByteArray} : ∀ {l : List SiteB} {x : SiteB}, siteAt u l = some x → x.url = u ∧ x ∈ l
  | [], x, h => by cases h
  | y :: l, x, h => by
    unfold siteAt at h
    split at h
    · rename_i hy; cases h; exact ⟨hy, by simp⟩
    · obtain ⟨h1, h2⟩ := siteAt_url h; exact ⟨h1, by simp [h2]⟩
theorem setSite_map (u s : ByteArray) (c : Int) : ∀ l : List SiteB, (setSite u s c l).map (·.url) = l.map (·.url)
  | [] => rfl
  | x :: l => by unfold setSite; split <;> simp [setSite_map]
theorem setCut_map (u : ByteArray) (c : Int) : ∀ l : List SiteB, (setCut u c l).map (·.url) = l.map (·.url)
  | [] => rfl
  | x :: l => by unfold setCut; split <;> simp [setCut_map]
theorem siteAt_setSite (u s v : ByteArray) (c : Int) : ∀ l : List SiteB, siteAt v (setSite u s c l) = if v = u then (siteAt u l).map (fun x => ⟨x.url, s, c⟩) else siteAt v l
  | [] => by simp [setSite, siteAt]
  | x :: l => by
    unfold setSite
    by_cases hx : x.url = u
    · rw [if_pos hx]
      by_cases hv : v = u
      · subst hv; simp [siteAt, hx]
      · rw [if_neg hv]
        have : x.url ≠ v := fun e => hv (by rw [← e, hx])
        simp [siteAt, this]
    · rw [if_neg hx]
      by_cases hv : x.url = v
      · have : v ≠ u := fun e => hx (by rw [hv, e])
        simp [siteAt, hv, this]
      · rw [siteAt, if_neg hv, siteAt_setSite u s v c l]
        simp [siteAt, hx, hv]
theorem siteAt_setCut (u v : ByteArray) (c : Int) : ∀ l : List SiteB, siteAt v (setCut u c l) = if v = u then (siteAt u l).map (fun x => ⟨x.url, x.text, c⟩) else siteAt v l
  | [] => by simp [setCut, siteAt]
  | x :: l => by
    unfold setCut
    by_cases hx : x.url = u
    · rw [if_pos hx]
      by_cases hv : v = u
      · subst hv; simp [siteAt, hx]
      · rw [if_neg hv]
        have : x.url ≠ v := fun e => hv (by rw [← e, hx])
        simp [siteAt, this]
    · rw [if_neg hx]
      by_cases hv : x.url = v
      · have : v ≠ u := fun e => hx (by rw [hv, e])
        simp [siteAt, hv, this]
      · rw [siteAt, if_neg hv, siteAt_setCut u v c l]
        simp [siteAt, hx, hv]
theorem siteAt_app (v : ByteArray) (x : SiteB) : ∀ l : List SiteB, siteAt v (l ++ [x]) = (siteAt v l).or (if x.url = v then some x else none)
  | [] => by simp [siteAt]
  | y :: l => by
    rw [List.cons_append]
    unfold siteAt
    split
    · rfl
    · exact siteAt_app v x l

/-- A net's own shape: no link twice, not too many, nothing too long. -/
structure NetOk (n : NetB) : Prop where
  apart : (n.sites.map (·.url)).Nodup
  few : n.sites.length ≤ 60
  small : ∀ x ∈ n.sites, x.url.size ≤ 100000 ∧ x.text.size ≤ 20000 ∧ -1 ≤ x.cut ∧ x.cut ≤ 9223372036854775807
theorem putN_ok {n : NetB} {u s : ByteArray} (h : NetOk n) (hu : u.size ≤ 100000) : NetOk (putN n u s).2 := by
  unfold putN
  split
  · exact h
  · split
    · exact h
    · rename_i hs
      split
      · refine ⟨by rw [setSite_map]; exact h.apart, ?_, ?_⟩
        · have := congrArg List.length (setSite_map u s (-1) n.sites)
          simp only [List.length_map] at this
          show (setSite u s (-1) n.sites).length ≤ 60
          rw [this]; exact h.few
        · intro x hx
          have hall : ∀ l : List SiteB, (∀ x ∈ l, x.url.size ≤ 100000 ∧ x.text.size ≤ 20000 ∧ -1 ≤ x.cut ∧ x.cut ≤ 9223372036854775807) → ∀ x ∈ setSite u s (-1) l, x.url.size ≤ 100000 ∧ x.text.size ≤ 20000 ∧ -1 ≤ x.cut ∧ x.cut ≤ 9223372036854775807 := by
            intro l
            induction l with
            | nil => intro _ x hx; cases hx
            | cons y l ih =>
              intro hl x hx
              unfold setSite at hx
              split at hx
              · rcases List.mem_cons.1 hx with rfl | hx
                · exact ⟨(hl y (by simp)).1, by show s.size ≤ 20000; omega, by show (-1 : Int) ≤ -1; omega, by show (-1 : Int) ≤ 9223372036854775807; omega⟩
                · exact hl x (by simp [hx])
              · rcases List.mem_cons.1 hx with rfl | hx
                · exact hl _ (by simp)
                · exact ih (fun z hz => hl z (by simp [hz])) x hx
          exact hall _ h.small x hx
      · split
        · exact h
        · rename_i hn hl
          refine ⟨?_, by show (n.sites ++ [_]).length ≤ 60; rw [List.length_append]; simp; omega, ?_⟩
          · show ((n.sites ++ [(⟨u, s, -1⟩ : SiteB)]).map (·.url)).Nodup
            rw [List.map_append, List.nodup_append]
            refine ⟨h.apart, by simp, ?_⟩
            intro a ha b hb hab
            obtain ⟨x, hx, rfl⟩ := List.mem_map.1 ha
            have : b = u := by simpa using hb
            subst this
            exact siteAt_none.1 hn x hx hab
          · intro x hx
            rcases List.mem_append.1 hx with hx | hx
            · exact h.small x hx
            · obtain rfl : x = ⟨u, s, -1⟩ := by simpa using hx
              exact ⟨hu, by show s.size ≤ 20000; omega, by show (-1 : Int) ≤ -1; omega, by show (-1 : Int) ≤ 9223372036854775807; omega⟩
theorem hostN_ok {n : NetB} {u : ByteArray} {on : Bool} (h : NetOk n) : NetOk (hostN n u on).2 := by
  unfold hostN
  split
  · exact ⟨h.apart, h.few, h.small⟩
  · exact h
theorem cutN_ok {n : NetB} {u : ByteArray} {k : Int} (h : NetOk n) (hk : k ≤ 9223372036854775807) : NetOk (cutN n u k).2 := by
  unfold cutN
  split
  · exact h
  · split
    · exact h
    · rename_i hk0
      refine ⟨by rw [setCut_map]; exact h.apart, ?_, ?_⟩
      · have := congrArg List.length (setCut_map u k n.sites)
        simp only [List.length_map] at this
        show (setCut u k n.sites).length ≤ 60
        rw [this]; exact h.few
      · intro x hx
        have hall : ∀ l : List SiteB, (∀ x ∈ l, x.url.size ≤ 100000 ∧ x.text.size ≤ 20000 ∧ -1 ≤ x.cut ∧ x.cut ≤ 9223372036854775807) → ∀ x ∈ setCut u k l, x.url.size ≤ 100000 ∧ x.text.size ≤ 20000 ∧ -1 ≤ x.cut ∧ x.cut ≤ 9223372036854775807 := by
          intro l
          induction l with
          | nil => intro _ x hx; cases hx
          | cons y l ih =>
            intro hl x hx
            unfold setCut at hx
            split at hx
            · rcases List.mem_cons.1 hx with rfl | hx
              · exact ⟨(hl y (by simp)).1, (hl y (by simp)).2.1, by show -1 ≤ k; omega, hk⟩
              · exact hl x (by simp [hx])
            · rcases List.mem_cons.1 hx with rfl | hx
              · exact hl _ (by simp)
              · exact ih (fun z hz => hl z (by simp [hz])) x hx
        exact hall _ h.small x hx
theorem getN_ok {n : NetB} {u : ByteArray} (h : NetOk n) : NetOk (getN n u).2.2 := by
  have : NetOk { n with calls := n.calls + 1 } := ⟨h.apart, h.few, h.small⟩
  unfold getN
  split
  · exact h
  · split
    · exact this
    · split <;> exact this
end Go.Proofs.YtpafddeakanopaaDoor
