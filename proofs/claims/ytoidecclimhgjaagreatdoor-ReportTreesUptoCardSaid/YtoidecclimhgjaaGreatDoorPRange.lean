/- Plain: the places of a tree that is known are numbers from 0 on. -/
import Derived.Test.YtoidecclimhgjaaGreatDoorTree
namespace Go.Proofs.YtoidecclimhgjaaGreatDoor
open Go.RowKit

theorem wrap64_eq (x : Int) : wrap64 x = (x + 9223372036854775808) % 18446744073709551616 - 9223372036854775808 := by
  unfold wrap64; rfl
theorem wrap64_step (x : Int) : wrap64 (wrap64 x + 1) = wrap64 (x + 1) := by simp only [wrap64_eq]; omega
theorem wrap64_in (x : Int) (h0 : 0 ≤ x) (h1 : x ≤ 9223372036854775807) : wrap64 x = x := by simp only [wrap64_eq]; omega

/-- What the places of a walk's state are. -/
def PlQ (f : Int) (s : St) : Prop := s.place = wrap64 (f + s.toks.length) ∧ ∀ t ∈ s.tree, (∃ j : Nat, j ≤ s.toks.length ∧ t.2.1 = wrap64 (f + j)) ∧ (t.2.2 = 0 ∨ ∃ j : Nat, j ≤ s.toks.length ∧ t.2.2 = wrap64 (f + j))
theorem PlQ.push {f : Int} {s : St} (h : PlQ f s) (x : Int) : PlQ f (s.push x) := by
  refine ⟨?_, fun t ht => ?_⟩
  · simp only [St.push, List.length_append, List.length_cons, List.length_nil]
    rw [h.1, wrap64_step]
    congr 1; omega
  · obtain ⟨⟨j, hj, h1⟩, h2⟩ := h.2 t ht
    simp only [St.push, List.length_append, List.length_cons, List.length_nil]
    refine ⟨⟨j, by omega, h1⟩, h2.imp id fun ⟨j, hj, h1⟩ => ⟨j, by omega, h1⟩⟩
theorem PlQ.open_ {f : Int} {s : St} (h : PlQ f s) (n deep : Int) : PlQ f (s.open_ n deep) := by
  refine ⟨h.1, fun t ht => ?_⟩
  simp only [St.open_, List.mem_append, List.mem_singleton] at ht
  rcases ht with ht | rfl
  · exact h.2 t ht
  · exact ⟨⟨_, Nat.le_refl _, h.1⟩, .inl rfl⟩
theorem PlQ.shut {f : Int} {s : St} (h : PlQ f s) (me : Nat) : PlQ f (s.shut me) := by
  refine ⟨h.1, fun t ht => ?_⟩
  simp only [St.shut] at ht
  obtain ⟨j, hj, rfl⟩ := List.mem_iff_getElem.1 ht
  rw [List.length_modify] at hj
  rw [List.getElem_modify]
  obtain ⟨h1, h2⟩ := h.2 _ (List.getElem_mem hj)
  split
  · exact ⟨h1, .inr ⟨_, Nat.le_refl _, h.1⟩⟩
  · exact ⟨h1, h2⟩
theorem nodeF_pl {R : List (Int × List Int)} {ru : List Int} {f : Int} (k : Nat) : ∀ (s s' : St) (nt deep : Int) (any : Bool), nodeF R ru k s nt deep any = some s' → PlQ f s → PlQ f s' := by
  induction k with
  | zero => intro s s' nt deep any h; simp [nodeF] at h
  | succ k ih =>
    intro s s' nt deep any h hq
    simp only [nodeF] at h
    split at h
    · simp at h
    split at h
    · simp at h
    split at h
    · simp at h
    split at h
    · simp at h
    obtain ⟨s2, h2, rfl⟩ := Option.map_eq_some_iff.1 h
    refine PlQ.shut (fold_keeps (P := PlQ f) _ _ s2 (fun t x t' _ ht hx => ?_) h2 (hq.open_ _ _)) _
    unfold kidF at hx
    split at hx
    · exact ih _ _ _ _ _ hx ht
    · cases hx; exact ht.push x

theorem known_range {T N : List ByteArray} {ax : Int} {R : List (Int × List Int)} {tree : List (Int × Int × Int)} {s : St} (h : knownF T N ax R tree = .ok s) (hi : ∀ t ∈ tree, t.2.1 ≤ 9223372036854775807) :
    ∀ t ∈ tree, (0 ≤ t.2.1 ∧ t.2.1 ≤ 9223372036854775807) ∧ 0 ≤ t.2.2 ∧ t.2.2 ≤ 9223372036854775807 := by
  obtain ⟨hm, x, hx, h0, h1, hw, hst⟩ := knownF_ok h
  obtain ⟨hck, hlen, _⟩ := may_ok hm
  have h32 : ∀ r ∈ R, r.2.length ≤ 32 := fun r hr => (hck.each r hr).1
  have hfit := walkF_fit h32 hw
  have hx1 := hi x (List.mem_of_getElem? hx)
  unfold walkF at hw
  rw [Option.bind_eq_some_iff] at hw
  obtain ⟨s1, hn, h2⟩ := hw
  split at h2
  · cases h2
  cases h2
  have hq : PlQ x.2.1 s := nodeF_pl _ _ _ _ _ _ hn ⟨by simp [wrap64_in _ h0 hx1], fun t ht => by simp at ht⟩
  -- the root's end
  have hroot : x.2.2 = s.place := by
    have hn' := hn
    rw [nodeF] at hn'
    split at hn'
    · simp at hn'
    split at hn'
    · simp at hn'
    split at hn'
    · simp at hn'
    split at hn'
    · simp at hn'
    obtain ⟨s2, _, hs2⟩ := Option.map_eq_some_iff.1 hn'
    have : s.tree[0]? = some x := by rw [hst]; exact hx
    rw [← hs2] at this ⊢
    simp only [St.shut, List.getElem?_modify] at this ⊢
    cases h3 : s2.tree[0]? with
    | none => rw [h3] at this; simp at this
    | some y => rw [h3] at this; simp at this; rw [← this]
  rw [hq.1] at hroot
  have hJ : s.toks.length ≤ 4194304 := by
    have := hfit.2.2
    rw [List.length_map] at this
    omega
  have hmax : x.2.1 + s.toks.length ≤ 9223372036854775807 := by
    rw [wrap64_eq] at hroot
    omega
  intro t ht
  rw [← hst] at ht
  obtain ⟨⟨j, hj, e1⟩, h3⟩ := hq.2 t ht
  rw [wrap64_in _ (by omega) (by omega)] at e1
  rcases h3 with h3 | ⟨j2, hj2, e2⟩
  · exact ⟨by omega, by omega⟩
  · rw [wrap64_in _ (by omega) (by omega)] at e2
    exact ⟨by omega, by omega⟩

def RlQ (R : List (Int × List Int)) (s : St) : Prop := ∀ t ∈ s.tree, 0 ≤ t.1 ∧ t.1.toNat < R.length
theorem nodeF_rl {R : List (Int × List Int)} {ru : List Int} (k : Nat) : ∀ (s s' : St) (nt deep : Int) (any : Bool), nodeF R ru k s nt deep any = some s' → RlQ R s → RlQ R s' := by
  induction k with
  | zero => intro s s' nt deep any h; simp [nodeF] at h
  | succ k ih =>
    intro s s' nt deep any h hq
    simp only [nodeF] at h
    split at h
    · simp at h
    rename_i n _
    split at h
    · simp at h
    rename_i hn0
    split at h
    · simp at h
    rename_i r hr
    split at h
    · simp at h
    obtain ⟨s2, h2, rfl⟩ := Option.map_eq_some_iff.1 h
    have h0 : RlQ R (s.open_ n deep) := fun t ht => by
      simp only [St.open_, List.mem_append, List.mem_singleton] at ht
      rcases ht with ht | rfl
      · exact hq t ht
      · exact ⟨by omega, (List.getElem?_eq_some_iff.1 hr).1⟩
    have h1 := fold_keeps (P := RlQ R) _ _ s2 (fun t x t' _ ht hx => by
      unfold kidF at hx
      split at hx
      · exact ih _ _ _ _ _ hx ht
      · cases hx; exact ht) h2 h0
    intro t ht
    simp only [St.shut] at ht
    obtain ⟨j, hj, rfl⟩ := List.mem_iff_getElem.1 ht
    rw [List.length_modify] at hj
    rw [List.getElem_modify]
    have := h1 _ (List.getElem_mem hj)
    split <;> exact this
theorem known_rl {T N : List ByteArray} {ax : Int} {R : List (Int × List Int)} {tree : List (Int × Int × Int)} {s : St} (h : knownF T N ax R tree = .ok s) : ∀ t ∈ tree, 0 ≤ t.1 ∧ t.1.toNat < R.length := by
  obtain ⟨_, x, _, _, _, hw, hst⟩ := knownF_ok h
  unfold walkF at hw
  rw [Option.bind_eq_some_iff] at hw
  obtain ⟨s1, hn, h2⟩ := hw
  split at h2
  · cases h2
  cases h2
  have := nodeF_rl _ _ _ _ _ _ hn (fun t ht => by simp at ht)
  rw [← hst]
  exact this
end Go.Proofs.YtoidecclimhgjaaGreatDoor
