/- Plain: the text of a tree, step by step with the numbers of children still to come (as the reference writes it), against the recursion. -/
import Derived.Test.YtoidecclimhgjaaGreatDoorPDown
namespace Go.Proofs.YtoidecclimhgjaaGreatDoor
open Go.RowKit

/-- What is written, and of each open step (the last one first) how many children are to come. -/
structure Rs where
  out : List UInt8
  left : List Nat
def popz (l : List Nat) : List Nat := l.dropWhile (· == 0)
def decL : List Nat → List Nat
  | [] => []
  | k :: l => (k - 1) :: l
def neg (l : List Int) : Nat := l.countP fun x => decide (x < 0)
def stepR (T N : List ByteArray) (R : List (Int × List Int)) (c : Rs) (s : Int × Int × Int) : Option Rs :=
  match R[s.1.toNat]? with
  | none => none
  | some r => if 1048576 < c.out.length + 2 * c.left.length then none
    else if 1048576 < (c.out ++ flatB (lineL T N r s c.left.length)).length then none
    else some ⟨c.out ++ flatB (lineL T N r s c.left.length), popz (neg r.2 :: decL c.left)⟩
def runR (T N : List ByteArray) (R : List (Int × List Int)) (tree : List (Int × Int × Int)) : Option Rs := tree.foldlM (stepR T N R) ⟨[], []⟩
def Dn.bad (d : Dn) : Prop := d.long = true ∨ 1048576 < d.bs.length
instance (d : Dn) : Decidable d.bad := by unfold Dn.bad; infer_instance

theorem popz_zero (l : List Nat) : popz (0 :: l) = popz l := by simp [popz]
theorem popz_succ (k : Nat) (l : List Nat) : popz ((k + 1) :: l) = (k + 1) :: l := by simp [popz]
theorem enter_bad {T N : List ByteArray} {d : Dn} {r : Int × List Int} {s : Int × Int × Int} {deep : Nat} (h : d.bad) : (d.enter T N r s deep).bad := by
  unfold Dn.enter
  rw [if_pos]
  · exact .inl rfl
  · rcases h with h | h
    · simp [h]
    · simp only [Bool.or_eq_true, decide_eq_true_eq]; right; omega
theorem down_bad {T N : List ByteArray} {R : List (Int × List Int)} {tree : List (Int × Int × Int)} (k : Nat) : ∀ (d d' : Dn) (deep : Nat), downF T N R tree k d deep = some d' → d.bad → d'.bad := by
  induction k with
  | zero => intro d d' deep h; simp [downF] at h
  | succ k ih =>
    intro d d' deep h hb
    simp only [downF] at h
    split at h
    · simp at h
    split at h
    · simp at h
    split at h
    · simp at h
    rename_i r hr
    have key : ∀ (l : List Int) (a b : Dn), l.foldlM (fun d x => if x < 0 then downF T N R tree k d (deep + 1) else some d) a = some b → a.bad → b.bad := by
      intro l
      induction l with
      | nil => intro a b hab ha; simp at hab; subst hab; exact ha
      | cons x l ihl =>
        intro a b hab ha
        simp only [List.foldlM_cons, Option.bind_eq_bind, Option.bind_eq_some_iff] at hab
        obtain ⟨a1, h1, h2⟩ := hab
        split at h1
        · exact ihl a1 b h2 (ih _ _ _ h1 ha)
        · cases h1; exact ihl _ b h2 ha
    exact key _ _ _ h (enter_bad hb)
theorem fold_bad {T N : List ByteArray} {R : List (Int × List Int)} {tree : List (Int × Int × Int)} {k deep : Nat} (l : List Int) : ∀ (a b : Dn), l.foldlM (fun d x => if x < 0 then downF T N R tree k d (deep + 1) else some d) a = some b → a.bad → b.bad := by
  induction l with
  | nil => intro a b hab ha; simp at hab; subst hab; exact ha
  | cons x l ihl =>
    intro a b hab ha
    simp only [List.foldlM_cons, Option.bind_eq_bind, Option.bind_eq_some_iff] at hab
    obtain ⟨a1, h1, h2⟩ := hab
    split at h1
    · exact ihl a1 b h2 (down_bad k _ _ _ h1 ha)
    · cases h1; exact ihl _ b h2 ha

def restR (T N : List ByteArray) (R : List (Int × List Int)) (tree : List (Int × Int × Int)) (at_ : Nat) (c : Rs) : Option Rs := (tree.drop at_).foldlM (stepR T N R) c

theorem down_run {T N : List ByteArray} {R : List (Int × List Int)} {tree : List (Int × Int × Int)} (k : Nat) :
    ∀ (d d' : Dn) (L : List Nat), downF T N R tree k d L.length = some d' → ¬ d.bad → restR T N R tree d.at_ ⟨d.bs, L⟩ = if d'.bad then none else restR T N R tree d'.at_ ⟨d'.bs, popz (decL L)⟩ := by
  induction k with
  | zero => intro d d' L h; simp [downF] at h
  | succ k ih =>
    intro d d' L h hb
    simp only [downF] at h
    cases hs : tree[d.at_]? with
    | none => rw [hs] at h; simp at h
    | some s =>
      rw [hs] at h
      simp only at h
      split at h
      · simp at h
      cases hr : R[s.1.toNat]? with
      | none => rw [hr] at h; simp at h
      | some r =>
        rw [hr] at h
        simp only at h
        have hat : d.at_ < tree.length := (List.getElem?_eq_some_iff.1 hs).1
        have hse : tree[d.at_] = s := (List.getElem?_eq_some_iff.1 hs).2
        have hML : (decL L).length = L.length := by cases L <;> simp [decL]
        have key : ∀ (l : List Int) (a b : Dn), l.foldlM (fun d x => if x < 0 then downF T N R tree k d (L.length + 1) else some d) a = some b → ¬ a.bad →
            restR T N R tree a.at_ ⟨a.bs, popz (neg l :: decL L)⟩ = if b.bad then none else restR T N R tree b.at_ ⟨b.bs, popz (decL L)⟩ := by
          intro l
          induction l with
          | nil =>
            intro a b hab ha
            simp at hab; subst hab
            rw [if_neg ha]
            show restR T N R tree a.at_ ⟨a.bs, popz (0 :: decL L)⟩ = _
            rw [popz_zero]
          | cons x l ihl =>
            intro a b hab ha
            simp only [List.foldlM_cons, Option.bind_eq_bind, Option.bind_eq_some_iff] at hab
            obtain ⟨a1, h1, h2⟩ := hab
            by_cases hx : x < 0
            · rw [if_pos hx] at h1
              have hn : neg (x :: l) = neg l + 1 := by simp [neg, hx]
              rw [hn, popz_succ]
              have := ih a a1 ((neg l + 1) :: decL L) (by rw [List.length_cons, hML]; exact h1) ha
              rw [this]
              by_cases hb1 : a1.bad
              · rw [if_pos hb1, if_pos (fold_bad l a1 b h2 hb1)]
              · rw [if_neg hb1]
                exact ihl a1 b h2 hb1
            · rw [if_neg hx] at h1
              cases h1
              have hn : neg (x :: l) = neg l := by simp [neg, hx]
              rw [hn]
              exact ihl a b h2 ha
        have h0 : restR T N R tree d.at_ ⟨d.bs, L⟩ = (stepR T N R ⟨d.bs, L⟩ s).bind fun c => restR T N R tree (d.at_ + 1) c := by
          unfold restR
          rw [List.drop_eq_getElem_cons hat, List.foldlM_cons, hse]
          rfl
        rw [h0]
        simp only [stepR, hr]
        have hlo : d.long = false := by cases hc : d.long with | true => exact absurd (.inl hc) hb | false => rfl
        by_cases h1 : 1048576 < d.bs.length + 2 * L.length
        · rw [if_pos h1]
          have hbe : (d.enter T N r s L.length).bad := by
            unfold Dn.enter; rw [if_pos (by simp [h1])]; exact .inl rfl
          rw [if_pos (fold_bad _ _ _ h hbe)]
          rfl
        · rw [if_neg h1]
          have he : d.enter T N r s L.length = ⟨d.at_ + 1, false, d.bs ++ flatB (lineL T N r s L.length)⟩ := by
            unfold Dn.enter; rw [if_neg (by simp [hlo, h1])]
          rw [he] at h
          by_cases h2 : 1048576 < (d.bs ++ flatB (lineL T N r s L.length)).length
          · rw [if_pos h2, if_pos (fold_bad _ _ _ h (.inr h2))]
            rfl
          · rw [if_neg h2, Option.bind_some]
            exact key r.2 _ d' h (by simp only [Dn.bad, not_or]; exact ⟨by simp, h2⟩)

/-- The whole text. -/
theorem run_down {T N : List ByteArray} {R : List (Int × List Int)} {tree : List (Int × Int × Int)} {k : Nat} {d : Dn} (h : downF T N R tree k ⟨0, false, []⟩ 0 = some d) (hat : d.at_ = tree.length) :
    runR T N R tree = if d.bad then none else some ⟨d.bs, []⟩ := by
  have := down_run k ⟨0, false, []⟩ d [] h (by simp [Dn.bad])
  unfold restR at this
  rw [hat, List.drop_length] at this
  exact this
end Go.Proofs.YtoidecclimhgjaaGreatDoor
