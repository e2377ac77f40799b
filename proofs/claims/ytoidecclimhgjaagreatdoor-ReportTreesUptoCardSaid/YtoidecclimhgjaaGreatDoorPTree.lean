/- Plain: derivation trees walked from the left by rules (as package deriv walks them). No program in sight. -/
import Derived.Test.YtoidecclimhgjaaGreatDoorBase
namespace Go.Proofs.YtoidecclimhgjaaGreatDoor
open Go.RowKit

/-- A walk on its way: the next rule's number, the next place, the steps, the tokens, the depth. -/
structure St where
  at_ : Nat
  place : Int
  tree : List (Int × Int × Int)
  toks : List Int
  depth : Int
def St.push (s : St) (x : Int) : St := { s with toks := s.toks ++ [x], place := wrap64 (s.place + 1) }
def kidF (f : St → Int → Option St) (s : St) (x : Int) : Option St := if x < 0 then f s (-1 - x) else some (s.push x)
def St.open_ (s : St) (n deep : Int) : St := { s with at_ := s.at_ + 1, depth := max s.depth deep, tree := s.tree ++ [(n, s.place, 0)] }
def St.shut (s : St) (me : Nat) : St := { s with tree := s.tree.modify me fun t => (t.1, t.2.1, s.place) }
/-- A node: of a nonterminal (any: of whatever the first rule is of); none: given up. -/
def nodeF (R : List (Int × List Int)) (ru : List Int) : Nat → St → Int → Int → Bool → Option St
  | 0, _, _, _, _ => none
  | k + 1, s, nt, deep, any => match ru[s.at_]? with
    | none => none
    | some n => if n < 0 then none else match R[n.toNat]? with
      | none => none
      | some r => if any = false ∧ r.1 ≠ nt then none
        else (r.2.foldlM (kidF fun s x => nodeF R ru k s x (deep + 1) false) (s.open_ n deep)).map fun s2 => s2.shut s.at_

/-- What a walk keeps. -/
structure St.Fit (s : St) (m : Nat) : Prop where
  len : s.tree.length = s.at_
  le : s.at_ ≤ m
  toks : s.toks.length ≤ 32 * s.at_

theorem fold_keeps {P : St → Prop} {f : St → Int → Option St} (l : List Int) (s s' : St) (hf : ∀ s x s', x ∈ l → P s → f s x = some s' → P s') (h : l.foldlM f s = some s') (h0 : P s) : P s' := by
  induction l generalizing s with
  | nil => simp at h; subst h; exact h0
  | cons x l ih =>
    simp only [List.foldlM_cons, Option.bind_eq_bind, Option.bind_eq_some_iff] at h
    obtain ⟨s1, h1, h2⟩ := h
    exact ih s1 (fun s x s' hx => hf s x s' (List.mem_cons_of_mem _ hx)) h2 (hf s x s1 (by simp) h0 h1)

/-- Behind a node: more steps, and at most 32 tokens a step more; the rules used are those up to there. -/
theorem nodeF_fit (R : List (Int × List Int)) (ru : List Int) (h32 : ∀ r ∈ R, r.2.length ≤ 32) (k : Nat) : ∀ (s s' : St) (nt deep : Int) (any : Bool), nodeF R ru k s nt deep any = some s' →
    s.tree.length = s.at_ → s.at_ < s'.at_ ∧ s'.tree.length = s'.at_ ∧ s'.at_ ≤ ru.length ∧ s'.toks.length + 32 * s.at_ ≤ s.toks.length + 32 * s'.at_ := by
  induction k with
  | zero => intro s s' nt deep any h; simp [nodeF] at h
  | succ k ih =>
    intro s s' nt deep any h hl
    simp only [nodeF] at h
    split at h
    · simp at h
    rename_i n hn
    split at h
    · simp at h
    split at h
    · simp at h
    rename_i r hr
    split at h
    · simp at h
    have hlt : s.at_ < ru.length := by rw [List.getElem?_eq_some_iff] at hn; exact hn.1
    obtain ⟨s2, h2, rfl⟩ := Option.map_eq_some_iff.1 h
    have hr32 := h32 r (List.mem_of_getElem? hr)
    -- over the right side's first symbols
    have key : ∀ (l : List Int) (a b : St), l.foldlM (kidF fun s x => nodeF R ru k s x (deep + 1) false) a = some b → a.tree.length = a.at_ → a.at_ ≤ ru.length →
        a.at_ ≤ b.at_ ∧ b.tree.length = b.at_ ∧ b.at_ ≤ ru.length ∧ b.toks.length + 32 * a.at_ ≤ a.toks.length + l.length + 32 * b.at_ := by
      intro l
      induction l with
      | nil => intro a b hab ha hle; simp at hab; subst hab; exact ⟨Nat.le_refl _, ha, hle, by simp⟩
      | cons x l ihl =>
        intro a b hab ha hle
        simp only [List.foldlM_cons, Option.bind_eq_bind, Option.bind_eq_some_iff] at hab
        obtain ⟨c, hc, hcb⟩ := hab
        unfold kidF at hc
        split at hc
        · obtain ⟨q1, q2, q3, q4⟩ := ih a c _ _ _ hc ha
          obtain ⟨p1, p2, p3, p4⟩ := ihl c b hcb q2 q3
          exact ⟨by omega, p2, p3, by simp only [List.length_cons]; omega⟩
        · simp only [Option.some.injEq] at hc; subst hc
          obtain ⟨p1, p2, p3, p4⟩ := ihl _ b hcb ha hle
          exact ⟨p1, p2, p3, by simp only [List.length_cons, St.push, List.length_append, List.length_nil] at p4 ⊢; omega⟩
    obtain ⟨p1, p2, p3, p4⟩ := key r.2 _ s2 h2 (by simp [St.open_, hl]) (by simp [St.open_]; omega)
    simp only [St.open_, St.shut, List.length_modify] at *
    exact ⟨by omega, p2, p3, by omega⟩
theorem kid_neg {f : St → Int → Option St} {s : St} {y x : Int} (e : y = x) (hx : x < 0) : kidF f s y = f s (-1 - x) := by subst e; simp [kidF, hx]
theorem kid_pos {f : St → Int → Option St} {s : St} {y x : Int} (e : y = x) (hx : ¬ x < 0) : kidF f s y = some (s.push x) := by subst e; simp [kidF, hx]
theorem fold_next {α β : Type} {f : β → α → Option β} {l : List α} {a b c : β} {j : Nat} (hj : j < l.length) (h : (l.take j).foldlM f a = some b) (hc : f b l[j] = some c) : (l.take (j + 1)).foldlM f a = some c := by
  rw [List.take_succ_eq_append_getElem hj, List.foldlM_append, h]; simp [hc]
theorem fold_none {α β : Type} {f : β → α → Option β} {l : List α} {a b : β} {j : Nat} (hj : j < l.length) (h : (l.take j).foldlM f a = some b) (hc : f b l[j] = none) : l.foldlM f a = none := by
  have e : l.foldlM f a = (l.take j ++ l.drop j).foldlM f a := by rw [List.take_append_drop]
  rw [e, List.foldlM_append, h, List.drop_eq_getElem_cons hj]
  simp only [Option.bind_eq_bind, Option.bind_some, List.foldlM_cons, hc, Option.bind_none]
theorem nodeF_go {R : List (Int × List Int)} {ru : List Int} {k : Nat} {s : St} {nt deep : Int} {any : Bool} {m : Nat} (hm : m < R.length) (hs : ru[s.at_]? = some (m : Int)) (hany : ¬ (any = false ∧ R[m].1 ≠ nt)) :
    nodeF R ru (k + 1) s nt deep any = (R[m].2.foldlM (kidF fun s x => nodeF R ru k s x (deep + 1) false) (s.open_ m deep)).map fun s2 => s2.shut s.at_ := by
  simp only [nodeF]; rw [hs]; simp only [Int.not_lt.2 (Int.natCast_nonneg m), if_false, Int.toNat_natCast]
  rw [List.getElem?_eq_getElem hm]; simp only; rw [if_neg hany]
end Go.Proofs.YtoidecclimhgjaaGreatDoor
