/- Plain: derivation trees walked step by step with a list of open steps (as the reference walks them), against the walk by nodes. No program in sight. -/
import Derived.Test.YtoidecclimhgjaaGreatDoorWalk3
namespace Go.Proofs.YtoidecclimhgjaaGreatDoor
open Go.RowKit

/-- A walk on its way: steps, tokens, the next place, the open steps (the last one first: which, how many symbols are done). -/
structure Oc where
  tree : List (Int × Int × Int)
  toks : List Int
  place : Int
  O : List (Nat × Nat)

/-- The right side of a step. -/
def rt (R : List (Int × List Int)) (tree : List (Int × Int × Int)) (i : Nat) : List Int :=
  match tree[i]? with | some s => (match R[s.1.toNat]? with | some r => r.2 | none => []) | none => []
def muO (O : List (Nat × Nat)) : Nat := (O.map fun f => (32 - f.2) + 1).sum
theorem muO_cons (f : Nat × Nat) (O : List (Nat × Nat)) : muO (f :: O) = (32 - f.2) + 1 + muO O := by simp [muO]

def Oc.shut (c : Oc) (i : Nat) (O : List (Nat × Nat)) : Oc := { c with tree := c.tree.modify i fun t => (t.1, t.2.1, c.place), O := O }
def Oc.tok (c : Oc) (x : Int) (O : List (Nat × Nat)) : Oc := { c with toks := c.toks ++ [x], place := wrap64 (c.place + 1), O := O }
/-- Terminals are passed over, and what is whole is closed. -/
def closeF (R : List (Int × List Int)) : Nat → Oc → Oc
  | 0, c => c
  | n + 1, c => match c.O with
    | [] => c
    | (i, d) :: O => match (rt R c.tree i)[d]? with
      | none => closeF R n (c.shut i O)
      | some x => if x < 0 then c else closeF R n (c.tok x ((i, d + 1) :: O))
def Oc.push (c : Oc) (n : Int) (O : List (Nat × Nat)) : Oc := { c with tree := c.tree ++ [(n, c.place, 0)], O := (c.tree.length, 0) :: O }
/-- A rule more. -/
def pushF (R : List (Int × List Int)) (root : Int) (c : Oc) (n : Int) : Option Oc :=
  if n < 0 then none else match R[n.toNat]? with
    | none => none
    | some r => if c.tree = [] then (if 0 ≤ root ∧ r.1 ≠ root then none else some (c.push n c.O))
      else match c.O with
        | [] => none
        | (i, d) :: O => if (rt R c.tree i)[d]? = some (-1 - r.1) then some (c.push n ((i, d + 1) :: O)) else none
def stepF (R : List (Int × List Int)) (root : Int) (c : Oc) (n : Int) : Option Oc := (pushF R root c n).map fun c => closeF R (muO c.O) c
/-- All rules: the state behind them. -/
def runF (R : List (Int × List Int)) (root from_ : Int) (ru : List Int) : Option Oc := ru.foldlM (stepF R root) ⟨[], [], from_, []⟩

theorem rt_le {R : List (Int × List Int)} (h32 : ∀ r ∈ R, r.2.length ≤ 32) (tree : List (Int × Int × Int)) (i : Nat) : (rt R tree i).length ≤ 32 := by
  unfold rt; split
  · split
    · rename_i r hr; exact h32 r (List.mem_of_getElem? hr)
    · simp
  · simp
/-- More fuel than the measure tells the same. -/
theorem closeF_fuel {R : List (Int × List Int)} (h32 : ∀ r ∈ R, r.2.length ≤ 32) (n : Nat) : ∀ (m : Nat) (c : Oc), muO c.O ≤ n → muO c.O ≤ m → closeF R n c = closeF R m c := by
  induction n with
  | zero =>
    intro m c h _
    cases hO : c.O with
    | nil => cases m with
      | zero => rfl
      | succ m => simp [closeF, hO]
    | cons f O => rw [hO, muO_cons] at h; omega
  | succ n ih =>
    intro m c h hm
    cases hO : c.O with
    | nil => cases m with
      | zero => simp [closeF, hO]
      | succ m => simp [closeF, hO]
    | cons f O =>
      obtain ⟨i, d⟩ := f
      cases m with
      | zero => rw [hO, muO_cons] at hm; omega
      | succ m =>
        rw [hO, muO_cons] at h hm
        simp only [closeF, hO]
        split
        · exact ih m _ (by simp only [Oc.shut] at h ⊢; omega) (by simp only [Oc.shut] at hm ⊢; omega)
        · rename_i x hx
          split
          · rfl
          · have hd : d < 32 := Nat.lt_of_lt_of_le (List.getElem?_eq_some_iff.1 hx).1 (rt_le h32 _ _)
            exact ih m _ (by simp only [Oc.tok, muO_cons] at h ⊢; omega) (by simp only [Oc.tok, muO_cons] at hm ⊢; omega)
def close (R : List (Int × List Int)) (c : Oc) : Oc := closeF R (muO c.O) c
theorem close_nil {R : List (Int × List Int)} {c : Oc} (h : c.O = []) : close R c = c := by simp [close, h, muO, closeF]
theorem close_shut {R : List (Int × List Int)} (h32 : ∀ r ∈ R, r.2.length ≤ 32) {c : Oc} {i d : Nat} {O : List (Nat × Nat)} (h : c.O = (i, d) :: O) (hd : (rt R c.tree i)[d]? = none) : close R c = close R (c.shut i O) := by
  unfold close
  have e : muO c.O = (32 - d + muO O) + 1 := by rw [h, muO_cons]; omega
  rw [e]
  simp only [closeF, h, hd]
  exact closeF_fuel h32 _ _ _ (by simp [Oc.shut]) (Nat.le_refl _)
theorem close_tok {R : List (Int × List Int)} (h32 : ∀ r ∈ R, r.2.length ≤ 32) {c : Oc} {i d : Nat} {O : List (Nat × Nat)} {x : Int} (h : c.O = (i, d) :: O) (hd : (rt R c.tree i)[d]? = some x) (hx : ¬ x < 0) : close R c = close R (c.tok x ((i, d + 1) :: O)) := by
  unfold close
  have hd32 : d < 32 := Nat.lt_of_lt_of_le (List.getElem?_eq_some_iff.1 hd).1 (rt_le h32 _ _)
  have e : muO c.O = (32 - d + muO O) + 1 := by rw [h, muO_cons]; omega
  rw [e]
  simp only [closeF, h, hd, if_neg hx]
  exact closeF_fuel h32 _ _ _ (by simp only [Oc.tok, muO_cons]; omega) (Nat.le_refl _)
theorem close_stop {R : List (Int × List Int)} {c : Oc} {i d : Nat} {O : List (Nat × Nat)} {x : Int} (h : c.O = (i, d) :: O) (hd : (rt R c.tree i)[d]? = some x) (hx : x < 0) : close R c = c := by
  unfold close
  have e : muO c.O = (32 - d + muO O) + 1 := by rw [h, muO_cons]; omega
  rw [e]
  simp only [closeF, h, hd, if_pos hx]

/-- What is still to come, from a state that is not closed yet; none: no tree. -/
def goP (R : List (Int × List Int)) (root : Int) (ru : List Int) (c : Oc) : Option Oc := (ru.foldlM (stepF R root) (close R c)).bind fun c => if c.O = [] then some c else none

/-- A shut step keeps its right side. -/
theorem rt_modify (R : List (Int × List Int)) (tree : List (Int × Int × Int)) (j i : Nat) (p : Int) : rt R (tree.modify j fun t => (t.1, t.2.1, p)) i = rt R tree i := by
  unfold rt
  rw [List.getElem?_modify]
  by_cases e : j = i
  · subst e
    cases tree[j]? <;> simp
  · simp [e]
theorem rt_append {R : List (Int × List Int)} {tree : List (Int × Int × Int)} {i : Nat} (h : i < tree.length) (l : List (Int × Int × Int)) : rt R (tree ++ l) i = rt R tree i := by
  unfold rt; rw [List.getElem?_append_left h]

/-- Steps that are there keep their right sides. -/
theorem node_rt {R : List (Int × List Int)} {ru : List Int} (k : Nat) : ∀ (s s' : St) (nt deep : Int) (any : Bool), nodeF R ru k s nt deep any = some s' → s.tree.length ≤ s'.tree.length ∧ ∀ i, i < s.tree.length → rt R s'.tree i = rt R s.tree i := by
  induction k with
  | zero => intro s s' nt deep any h; simp [nodeF] at h
  | succ k ih =>
    intro s s' nt deep any h
    simp only [nodeF] at h
    split at h
    · simp at h
    rename_i n hn
    split at h
    · simp at h
    split at h
    · simp at h
    rename_i r hr
    split at h
    · simp at h
    obtain ⟨s2, h2, rfl⟩ := Option.map_eq_some_iff.1 h
    have key := fold_keeps (P := fun t => (s.open_ n deep).tree.length ≤ t.tree.length ∧ ∀ i, i < (s.open_ n deep).tree.length → rt R t.tree i = rt R (s.open_ n deep).tree i) r.2 _ s2 (fun t x t' _ ht hx => by
      unfold kidF at hx
      split at hx
      · obtain ⟨q1, q2⟩ := ih _ _ _ _ _ hx
        exact ⟨by omega, fun i hi => (q2 i (by omega)).trans (ht.2 i hi)⟩
      · simp only [Option.some.injEq] at hx; subst hx; exact ht) h2 ⟨Nat.le_refl _, fun _ _ => rfl⟩
    simp only [St.open_, List.length_append, List.length_cons, List.length_nil] at key
    refine ⟨by simp only [St.shut, List.length_modify]; omega, fun i hi => ?_⟩
    simp only [St.shut, rt_modify]
    rw [key.2 i (by omega), rt_append hi]

def ocOf (s : St) (O : List (Nat × Nat)) : Oc := ⟨s.tree, s.toks, s.place, O⟩
theorem goP_congr {R : List (Int × List Int)} {root : Int} {ru : List Int} {c c' : Oc} (h : close R c = close R c') : goP R root ru c = goP R root ru c' := by unfold goP; rw [h]

/-- The rest of an open step's right side: both walks go on alike. -/
theorem go_kids {R : List (Int × List Int)} {ru : List Int} {root : Int} (h32 : ∀ r ∈ R, r.2.length ≤ 32) (hl0 : ∀ r ∈ R, 0 ≤ r.1) (k : Nat) :
    ∀ (l : List Int) (s : St) (me d : Nat) (O : List (Nat × Nat)) (deep : Int), (rt R s.tree me).drop d = l → me < s.tree.length → s.tree.length = s.at_ → ru.length - s.at_ < k →
      goP R root (ru.drop s.at_) (ocOf s ((me, d) :: O)) = (l.foldlM (kidF fun s x => nodeF R ru k s x deep false) s).bind fun s2 => goP R root (ru.drop s2.at_) (ocOf (s2.shut me) O) := by
  induction k with
  | zero => intro l s me d O deep _ _ _ h; omega
  | succ k ih =>
    intro l
    induction l with
    | nil =>
      intro s me d O deep hl hme hs hk
      have hd : (rt R s.tree me)[d]? = none := by rw [List.getElem?_eq_none_iff]; exact List.drop_eq_nil_iff.1 hl
      simp only [List.foldlM_nil]
      show _ = goP R root (ru.drop s.at_) (ocOf (s.shut me) O)
      exact goP_congr (close_shut h32 rfl hd)
    | cons x l ihl =>
      intro s me d O deep hl hme hs hk
      have hdl : d < (rt R s.tree me).length := by
        rcases Nat.lt_or_ge d (rt R s.tree me).length with h | h
        · exact h
        · rw [List.drop_eq_nil_of_le h] at hl; cases hl
      rw [List.drop_eq_getElem_cons hdl] at hl
      have hx : (rt R s.tree me)[d]? = some x := by rw [List.getElem?_eq_getElem hdl]; exact congrArg some (List.cons.inj hl).1
      have hl2 : (rt R s.tree me).drop (d + 1) = l := (List.cons.inj hl).2
      simp only [List.foldlM_cons, Option.bind_eq_bind]
      by_cases h0 : x < 0
      · -- a nonterminal: the next rule
        have hcl : close R (ocOf s ((me, d) :: O)) = ocOf s ((me, d) :: O) := close_stop rfl hx h0
        have hkid : kidF (fun s x => nodeF R ru (k + 1) s x deep false) s x = nodeF R ru (k + 1) s (-1 - x) deep false := by simp [kidF, h0]
        rw [hkid]
        have hne : s.tree ≠ [] := by intro e; rw [e] at hme; simp at hme
        unfold goP
        rw [hcl]
        by_cases hat : s.at_ < ru.length
        · have hnode : nodeF R ru (k + 1) s (-1 - x) deep false = (match ru[s.at_]? with | none => none | some n => if n < 0 then none else match R[n.toNat]? with | none => none | some r => if false = false ∧ r.1 ≠ -1 - x then none else (r.2.foldlM (kidF fun s x => nodeF R ru k s x (deep + 1) false) (s.open_ n deep)).map fun s2 => s2.shut s.at_) := rfl
          rw [hnode, List.drop_eq_getElem_cons hat, List.foldlM_cons]
          simp only [Option.bind_eq_bind, List.getElem?_eq_getElem hat]
          by_cases hn0 : ru[s.at_] < 0
          · simp [stepF, pushF, hn0]
          · cases hr : R[ru[s.at_].toNat]? with
            | none => simp [stepF, pushF, hn0, hr]
            | some r =>
              have hr0 := hl0 r (List.mem_of_getElem? hr)
              by_cases hlf : r.1 = -1 - x
              · have e2 : x = -1 - r.1 := by omega
                have hp : pushF R root (ocOf s ((me, d) :: O)) ru[s.at_] = some ((ocOf s ((me, d) :: O)).push ru[s.at_] ((me, d + 1) :: O)) := by
                  simp only [pushF, hn0, if_false, hr, ocOf, hne, hx]; rw [if_pos (by rw [← e2])]
                simp only [stepF, hp, Option.map_some, Option.bind_some, hn0, if_false, hlf, ne_eq, not_true, and_false]
                have hrt : rt R (s.open_ ru[s.at_] deep).tree s.tree.length = r.2 := by
                  unfold rt St.open_; simp [hr]
                have hsame : (closeF R (muO ((ocOf s ((me, d) :: O)).push ru[s.at_] ((me, d + 1) :: O)).O) ((ocOf s ((me, d) :: O)).push ru[s.at_] ((me, d + 1) :: O))) = close R (ocOf (s.open_ ru[s.at_] deep) ((s.tree.length, 0) :: (me, d + 1) :: O)) := rfl
                rw [hsame]
                have h1 := ih r.2 (s.open_ ru[s.at_] deep) s.tree.length 0 ((me, d + 1) :: O) (deep + 1) (by rw [hrt]; rfl) (by simp [St.open_]) (by simp [St.open_, hs]) (by simp [St.open_]; omega)
                have h2 : (s.open_ ru[s.at_] deep).at_ = s.at_ + 1 := rfl
                rw [h2] at h1
                unfold goP at h1
                rw [h1]
                cases hf : r.2.foldlM (kidF fun s x => nodeF R ru k s x (deep + 1) false) (s.open_ ru[s.at_] deep) with
                | none => simp
                | some s2 =>
                  simp only [Option.bind_some, Option.map_some]
                  have hfull : nodeF R ru (k + 1) s (-1 - x) deep false = some (s2.shut s.at_) := by
                    simp only [nodeF, List.getElem?_eq_getElem hat, hn0, if_false, hr, hlf, ne_eq, not_true, and_false, hf, Option.map_some]
                  obtain ⟨q1, q2, q3, _⟩ := nodeF_fit R ru h32 _ _ _ _ _ _ hfull hs
                  obtain ⟨p1, p2⟩ := node_rt _ _ _ _ _ _ hfull
                  have h3 := ihl (s2.shut s.at_) me (d + 1) O deep (by rw [p2 me hme]; exact hl2) (by omega) q2 (by have : (s2.shut s.at_).at_ = s2.at_ := rfl; omega)
                  have h4 : (s2.shut s.tree.length) = s2.shut s.at_ := by rw [hs]
                  rw [h4]
                  unfold goP at h3
                  exact h3
              · have hp : pushF R root (ocOf s ((me, d) :: O)) ru[s.at_] = none := by
                  simp only [pushF, hn0, if_false, hr, ocOf, hne, hx]; rw [if_neg (by simp; omega)]
                simp [stepF, hp, hn0, hlf]
        · rw [List.drop_of_length_le (by omega)]
          have : nodeF R ru (k + 1) s (-1 - x) deep false = none := by simp only [nodeF]; rw [List.getElem?_eq_none (by omega)]
          rw [this]
          simp [ocOf]
      · -- a terminal
        have hkid : kidF (fun s x => nodeF R ru (k + 1) s x deep false) s x = some (s.push x) := by simp [kidF, h0]
        rw [hkid, Option.bind_some]
        have h1 := ihl (s.push x) me (d + 1) O deep hl2 hme hs hk
        rw [show (s.push x).at_ = s.at_ from rfl] at h1
        rw [← h1]
        exact goP_congr (close_tok h32 rfl hx h0)

/-- Both walks by all rules agree. -/
theorem run_walk {R : List (Int × List Int)} {ru : List Int} {root : Int} (h32 : ∀ r ∈ R, r.2.length ≤ 32) (hl0 : ∀ r ∈ R, 0 ≤ r.1) (nt from_ : Int) (hnt : 0 ≤ root → nt = root) (hne : ru ≠ []) :
    ((runF R root from_ ru).bind fun c => if c.O = [] then some c else none) = (walkF R ru nt from_ (decide (root < 0))).map fun s => ocOf s [] := by
  obtain ⟨n, l, rfl⟩ := List.exists_cons_of_ne_nil hne
  unfold walkF runF
  simp only [List.foldlM_cons, Option.bind_eq_bind, nodeF, List.getElem?_cons_zero]
  by_cases hn0 : n < 0
  · simp [stepF, pushF, hn0]
  · cases hr : R[n.toNat]? with
    | none => simp [stepF, pushF, hn0, hr]
    | some r =>
      by_cases hrt : decide (root < 0) = false ∧ r.1 ≠ nt
      · obtain ⟨h1, h2⟩ := hrt
        have h1' : 0 ≤ root := by simpa using h1
        have : pushF R root ⟨[], [], from_, []⟩ n = none := by
          simp only [pushF, hn0, if_false, hr, if_true]; rw [if_pos ⟨h1', by rw [← hnt h1']; exact h2⟩]
        simp [stepF, this, hn0, h1, h2]
      · have hp : pushF R root ⟨[], [], from_, []⟩ n = some (Oc.push ⟨[], [], from_, []⟩ n []) := by
          simp only [pushF, hn0, if_false, hr, if_true]; rw [if_neg (fun h => hrt ⟨by simpa using h.1, by rw [hnt h.1]; exact h.2⟩)]
        simp only [stepF, hp, Option.map_some, Option.bind_some, hn0, if_false, hrt]
        have hs : (closeF R (muO (Oc.push ⟨[], [], from_, []⟩ n []).O) (Oc.push ⟨[], [], from_, []⟩ n [])) = close R (ocOf (St.open_ ⟨0, from_, [], [], 0⟩ n 1) [(0, 0)]) := rfl
        rw [hs]
        have hrt2 : rt R (St.open_ ⟨0, from_, [], [], 0⟩ n 1).tree 0 = r.2 := by unfold rt St.open_; simp [hr]
        have h1 := go_kids (ru := n :: l) (root := root) h32 hl0 ((n :: l).length) r.2 (St.open_ ⟨0, from_, [], [], 0⟩ n 1) 0 0 [] 2 (by rw [hrt2]; rfl) (by simp [St.open_]) (by simp [St.open_]) (by simp [St.open_])
        rw [show (St.open_ ⟨0, from_, [], [], 0⟩ n 1).at_ = 1 from rfl] at h1
        simp only [List.drop_succ_cons, List.drop_zero] at h1
        unfold goP at h1
        rw [h1, show (1 : Int) + 1 = 2 from rfl]
        cases hf : r.2.foldlM (kidF fun s x => nodeF R (n :: l) (n :: l).length s x 2 false) (St.open_ ⟨0, from_, [], [], 0⟩ n 1) with
        | none => simp
        | some s2 =>
          simp only [Option.bind_some, Option.map_some]
          have hfull : nodeF R (n :: l) ((n :: l).length + 1) ⟨0, from_, [], [], 0⟩ nt 1 (decide (root < 0)) = some (s2.shut 0) := by
            simp only [nodeF, List.getElem?_cons_zero, hn0, if_false, hr, hrt]; rw [show (1 : Int) + 1 = 2 from rfl, hf]; rfl
          obtain ⟨q1, q2, q3, _⟩ := nodeF_fit R (n :: l) h32 _ _ _ _ _ _ hfull rfl
          have e : (s2.shut 0).at_ = s2.at_ := rfl
          rw [e] at q1 q2 q3
          have hne2 : (s2.shut 0).tree ≠ [] := by intro h; rw [h] at q2; simp at q2; omega
          rw [close_nil (c := ocOf (s2.shut 0) []) rfl]
          by_cases hat : s2.at_ < (n :: l).length
          · rw [if_pos (by simpa [St.shut] using hat), List.drop_eq_getElem_cons hat, List.foldlM_cons]
            have : pushF R root (ocOf (s2.shut 0) []) (n :: l)[s2.at_] = none := by
              unfold pushF; split
              · rfl
              · split
                · rfl
                · rw [if_neg (by simpa [ocOf] using hne2)]; rfl
            simp [stepF, this]
          · rw [if_neg (by simpa [St.shut] using hat), List.drop_of_length_le (by omega)]
            simp [ocOf]
end Go.Proofs.YtoidecclimhgjaaGreatDoor
