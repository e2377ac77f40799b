/- Plain: the text of a tree, written by recursion; against the walk by nodes. -/
import Derived.Test.YtoidecclimhgjaaGreatDoorText7
import Derived.Test.YtoidecclimhgjaaGreatDoorPOpen
import Derived.Lib.ItoaLen
namespace Go.Proofs.YtoidecclimhgjaaGreatDoor
open Go.RowKit

/-- A step's line. -/
def lineL (T N : List ByteArray) (r : Int × List Int) (s : Int × Int × Int) (deep : Nat) : List ByteArray :=
  [⟨(Lib.repeatL [32, 32] deep).toArray⟩, ruleT T N r.1 r.2, ⟨#[32]⟩, ⟨(Lib.itoa s.2.1).toArray⟩, ⟨#[45]⟩, ⟨(Lib.itoa s.2.2).toArray⟩, ⟨#[10]⟩]
structure Dn where
  at_ : Nat
  long : Bool
  bs : List UInt8
def Dn.enter (T N : List ByteArray) (d : Dn) (r : Int × List Int) (s : Int × Int × Int) (deep : Nat) : Dn :=
  if (d.long || decide (1048576 < d.bs.length + 2 * deep)) = true then ⟨d.at_ + 1, true, d.bs⟩ else ⟨d.at_ + 1, false, d.bs ++ flatB (lineL T N r s deep)⟩
def downF (T N : List ByteArray) (R : List (Int × List Int)) (tree : List (Int × Int × Int)) : Nat → Dn → Nat → Option Dn
  | 0, _, _ => none
  | k + 1, d, deep => match tree[d.at_]? with
    | none => none
    | some s => if s.1 < 0 then none else match R[s.1.toNat]? with
      | none => none
      | some r => r.2.foldlM (fun d x => if x < 0 then downF T N R tree k d (deep + 1) else some d) (d.enter T N r s deep)

theorem enter_at {T N : List ByteArray} {d : Dn} {r : Int × List Int} {s : Int × Int × Int} {deep : Nat} : (d.enter T N r s deep).at_ = d.at_ + 1 := by
  unfold Dn.enter; split <;> rfl
/-- Where the walk by nodes goes through, the text is written. -/
theorem down_node {T N : List ByteArray} {R : List (Int × List Int)} {ru : List Int} {tree : List (Int × Int × Int)} (hru : ru = tree.map (·.1)) (k : Nat) :
    ∀ (s s' : St) (nt dp : Int) (any : Bool) (d : Dn) (deep : Nat), nodeF R ru k s nt dp any = some s' → d.at_ = s.at_ → ∃ d', downF T N R tree k d deep = some d' ∧ d'.at_ = s'.at_ := by
  induction k with
  | zero => intro s s' nt dp any d deep h; simp [nodeF] at h
  | succ k ih =>
    intro s s' nt dp any d deep h hat
    simp only [nodeF] at h
    split at h
    · simp at h
    rename_i n hn
    split at h
    · simp at h
    rename_i hn0
    split at h
    · simp at h
    rename_i r hr
    split at h
    · simp at h
    obtain ⟨s2, h2, rfl⟩ := Option.map_eq_some_iff.1 h
    rw [hru, List.getElem?_map, Option.map_eq_some_iff] at hn
    obtain ⟨st, hst, rfl⟩ := hn
    have key : ∀ (l : List Int) (a b : St) (c : Dn), l.foldlM (kidF fun s x => nodeF R ru k s x (dp + 1) false) a = some b → c.at_ = a.at_ →
        ∃ c', l.foldlM (fun d x => if x < 0 then downF T N R tree k d (deep + 1) else some d) c = some c' ∧ c'.at_ = b.at_ := by
      intro l
      induction l with
      | nil => intro a b c hab hc; simp at hab; subst hab; exact ⟨c, rfl, hc⟩
      | cons x l ihl =>
        intro a b c hab hc
        simp only [List.foldlM_cons, Option.bind_eq_bind, Option.bind_eq_some_iff] at hab
        obtain ⟨a1, h1, h2⟩ := hab
        simp only [List.foldlM_cons, Option.bind_eq_bind]
        unfold kidF at h1
        by_cases hx : x < 0
        · rw [if_pos hx] at h1
          obtain ⟨c1, q1, q2⟩ := ih a a1 _ _ _ c (deep + 1) h1 hc
          rw [if_pos hx, q1, Option.bind_some]
          exact ihl a1 b c1 h2 q2
        · rw [if_neg hx, Option.some.injEq] at h1
          subst h1
          rw [if_neg hx, Option.bind_some]
          exact ihl _ b c h2 hc
    obtain ⟨c', q1, q2⟩ := key r.2 _ s2 (d.enter T N r st deep) h2 (by rw [enter_at, hat]; rfl)
    refine ⟨c', ?_, q2⟩
    simp only [downF, hat, hst, hn0, if_false, hr]
    exact q1

theorem ruleT_le {T N : List ByteArray} {l : Int} {r : List Int} (hn : ∀ n ∈ T ++ N, n.size ≤ 1048576) (hr : r.length ≤ 32) : (ruleT T N l r).size ≤ 4194310 + 3 + 4194311 * 32 := by
  have h1 := symF_le (s := -1 - l) hn
  have h2 := symsL_le T N hn r
  have h3 : 4194311 * r.length ≤ 4194311 * 32 := Nat.mul_le_mul_left _ hr
  have e1 : (⟨#[32, 58]⟩ : ByteArray).size = 2 := rfl
  have e2 : (⟨#[32]⟩ : ByteArray).size = 1 := rfl
  have e3 : (⟨(symsL T N r).toArray⟩ : ByteArray).size = (symsL T N r).length := rfl
  unfold ruleT
  split <;> simp only [ByteArray.size_append] <;> omega
theorem line_le {T N : List ByteArray} {r : Int × List Int} {s : Int × Int × Int} {deep : Nat} (hn : ∀ n ∈ T ++ N, n.size ≤ 1048576) (hr : r.2.length ≤ 32) (h1 : -9223372036854775808 ≤ s.2.1 ∧ s.2.1 ≤ 9223372036854775807) (h2 : -9223372036854775808 ≤ s.2.2 ∧ s.2.2 ≤ 9223372036854775807) :
    (flatB (lineL T N r s deep)).length ≤ 2 * deep + 268435456 := by
  have a := ruleT_le (l := r.1) hn hr
  have b := Lib.itoa_length_le s.2.1 h1.1 h1.2
  have c := Lib.itoa_length_le s.2.2 h2.1 h2.2
  have d := Lib.repeatL_length [32, 32] deep
  have e : (ruleT T N r.1 r.2).data.toList.length = (ruleT T N r.1 r.2).size := rfl
  simp only [flatB, lineL, List.flatMap_cons, List.flatMap_nil, List.length_append, List.append_nil, List.length_cons, List.length_nil] at *
  omega
/-- What is written stays short. -/
theorem down_le {T N : List ByteArray} {R : List (Int × List Int)} {tree : List (Int × Int × Int)} (hn : ∀ n ∈ T ++ N, n.size ≤ 1048576) (hR : ∀ r ∈ R, r.2.length ≤ 32)
    (ht : ∀ s ∈ tree, (-9223372036854775808 ≤ s.2.1 ∧ s.2.1 ≤ 9223372036854775807) ∧ -9223372036854775808 ≤ s.2.2 ∧ s.2.2 ≤ 9223372036854775807) (k : Nat) :
    ∀ (d d' : Dn) (deep : Nat), downF T N R tree k d deep = some d' → d.bs.length ≤ 1073741824 → d'.bs.length ≤ 1073741824 := by
  induction k with
  | zero => intro d d' deep h; simp [downF] at h
  | succ k ih =>
    intro d d' deep h hd
    simp only [downF] at h
    split at h
    · simp at h
    rename_i s hs
    split at h
    · simp at h
    split at h
    · simp at h
    rename_i r hr
    have h0 : (d.enter T N r s deep).bs.length ≤ 1073741824 := by
      unfold Dn.enter
      split
      · exact hd
      · rename_i hl
        simp only [Bool.or_eq_true, decide_eq_true_eq, not_or] at hl
        have := line_le (T := T) (N := N) (s := s) (deep := deep) hn (hR r (List.mem_of_getElem? hr)) (ht s (List.mem_of_getElem? hs)).1 (ht s (List.mem_of_getElem? hs)).2
        simp only [List.length_append]
        omega
    have key : ∀ (l : List Int) (a b : Dn), l.foldlM (fun d x => if x < 0 then downF T N R tree k d (deep + 1) else some d) a = some b → a.bs.length ≤ 1073741824 → b.bs.length ≤ 1073741824 := by
      intro l
      induction l with
      | nil => intro a b hab ha; simp at hab; subst hab; exact ha
      | cons x l ihl =>
        intro a b hab ha
        simp only [List.foldlM_cons, Option.bind_eq_bind, Option.bind_eq_some_iff] at hab
        obtain ⟨a1, h1, h2⟩ := hab
        split at h1
        · exact ihl a1 b h2 (ih _ _ _ h1 ha)
        · cases h1; exact ihl _ b h2 ha
    exact key _ _ _ h h0
end Go.Proofs.YtoidecclimhgjaaGreatDoor
