/- The arguments' readings opened: a grammar, steps. -/
import Derived.Test.YtoidecclimhgjaaGreatDoorRows
import Derived.Test.YtoidecclimhgjaaGreatDoorErr
import Derived.Test.YtoidecclimhgjaaGreatDoorSteps
import Derived.Deep.Slices
import Derived.Deep.Fields
import Derived.ChangeSame
import Derived.ChangeSlices
import Derived.SliceStrings
import Derived.Lib.SmallJoins
import Derived.OpenShut
namespace Go.Proofs.YtoidecclimhgjaaGreatDoor
open Go.Joins Go.ChangeShapes Go.WideShapes Go.RowKit Go.Deep

/-! What a reading's bulk bounds. -/
theorem bulk_one {H : Type} (d : DataW H) : 1 ≤ Rows.uptoBulk d := by
  cases d with
  | lit l => cases l <;> simp [Rows.uptoBulk]
  | nil => simp [Rows.uptoBulk]
  | ptr d => simp [Rows.uptoBulk]
  | slice elems spare => simp [Rows.uptoBulk]
  | agg parts => simp [Rows.uptoBulk]
  | iface t d => simp [Rows.uptoBulk]
  | map entries => simp [Rows.uptoBulk]
  | held h => simp [Rows.uptoBulk]
theorem bulk_part {H : Type} {d : DataW H} {l : List (DataW H)} (h : d ∈ l) : Rows.uptoBulk d ≤ Rows.uptoBulkAll l := by
  induction l with
  | nil => cases h
  | cons x r ih =>
    simp only [Rows.uptoBulkAll]
    cases List.mem_cons.1 h with
    | inl e => subst e; omega
    | inr e => have := ih e; omega
theorem bulk_len {H : Type} (l : List (DataW H)) : l.length ≤ Rows.uptoBulkAll l := by
  induction l with
  | nil => simp [Rows.uptoBulkAll]
  | cons x r ih => have := bulk_one x; simp only [Rows.uptoBulkAll, List.length_cons]; omega
theorem bulk_slice {H : Type} (elems spare : List (DataW H)) : elems.length ≤ Rows.uptoBulk (.slice elems spare) ∧ Rows.uptoBulkAll elems ≤ Rows.uptoBulk (.slice elems spare) := by
  have h1 := bulk_len elems
  simp only [Rows.uptoBulk]
  omega
theorem bulk_agg {H : Type} {d : DataW H} {l : List (DataW H)} (h : d ∈ l) : Rows.uptoBulk d ≤ Rows.uptoBulk (.agg l) := by
  have := bulk_part h
  simp only [Rows.uptoBulk]
  omega

/-! Slices of several one-cell fields: after the guide's block on them. -/
section
variable {H : Type} {enc : TypeId × Value → H} {P : Program} {w : World} {base : Nat} {spare : Nat → Bool} {held : Bool}
theorem open_slice_fields {t e : TypeId} {fs : Array Field} {fuel : Nat} {cs : List Value} {x : DataW H × List MemPlace} (ht : P.underlying t = some (.slice e)) (he : P.underlying e = some (.struct fs))
    (hone : oneCellFields P fs = true) (hC : P.cellsOf e = fs.size) (h : DataW.trod enc P w base spare held fuel t cs = some x) :
    (cs = [.slice none 0 0] ∧ x = (.nil, [])) ∨
    ∃ (a : Addr) (len cap m : Nat) (D : Nat → DataW H) (Pl : Nat → List MemPlace), cs = [.slice (some a) len cap] ∧ base ≤ a.block ∧ len ≤ cap ∧ cap ≤ maxLen ∧ m = (if spare a.block then cap else len) ∧
      x = (.slice ((List.range len).map D) ((List.range (m - len)).map fun j => D (len + j)), MemPlace.row a (m * fs.size) ++ (List.range m).flatMap Pl) ∧
      ∀ i, i < m → ∃ (ys : List (DataW H × List MemPlace)) (n : Nat), D i = .agg (ys.map (·.1)) ∧ Pl i = ys.flatMap (·.2) ∧ ys.length = fs.size ∧
        ∀ (j : Nat) (f : Field), fs[j]? = some f → ∃ (v : Value) (y : DataW H × List MemPlace), w.cell? (a.add (i * fs.size + j)) = some v ∧ ys[j]? = some y ∧ DataW.trod enc P w base spare held n f.type [v] = some y := by
  rcases open_slice ht h with h0 | ⟨a, len, cap, m, n, D, Pl, hcs, hb, hl, hm, hmm, hx, hi⟩
  · exact .inl h0
  · refine .inr ⟨a, len, cap, m, D, Pl, hcs, hb, hl, hm, hmm, by rw [hC] at hx; exact hx, fun i him => ?_⟩
    obtain ⟨cs', hc, ht'⟩ := hi i him
    rw [hC] at hc
    obtain ⟨ys, n', hn', hy, hlen, hyl, hf⟩ := DataW.trod_struct he ht'
    obtain ⟨_, hcl, hat⟩ := World.cells?_some hc
    simp only [Prod.mk.injEq] at hy
    refine ⟨ys, n', hy.1, hy.2, hyl, fun j f hj => ?_⟩
    obtain ⟨ho, hk⟩ := hone_of hone j f hj
    have hjl : j < fs.size := (Array.getElem?_eq_some_iff.1 hj).1
    have hcell := hat j hjl
    have hv : cs'[j]? = some (cs'[j]'(by omega)) := List.getElem?_eq_getElem (by omega)
    have h1 := hf j f hj
    rw [ho, hk] at h1
    have hone' : (cs'.drop j).take 1 = [cs'[j]'(by omega)] := by
      rw [List.drop_eq_getElem_cons (by omega)]
      rfl
    rw [hone'] at h1
    have hys : ys[j]? = some (ys[j]'(by omega)) := List.getElem?_eq_getElem (by omega)
    refine ⟨_, _, ?_, hys, h1.trans hys⟩
    rw [← Go.Deep.add_add, hcell, hv]
end

/-- A row of cells at an address. -/
theorem row_of {w : World} {a : Addr} {xs : List Value} (h : ∀ i u, xs[i]? = some u → w.cell? (a.add i) = some u) : Row w w.heap.size (some a) xs := fun hn => by
  have h0 := h 0 _ (List.getElem?_eq_getElem hn)
  obtain ⟨b, o, s⟩ := a
  have hb : b < w.heap.size ∧ s = none := by
    unfold World.cell? at h0
    simp only [Addr.add] at h0
    split at h0
    · rename_i hx
      refine ⟨(Array.getElem?_eq_some_iff.1 hx).1, ?_⟩
      cases s with
      | none => rfl
      | some s => simp at h0
    · cases h0
  obtain ⟨hb, rfl⟩ := hb
  exact ⟨b, o, rfl, hb, fun j u hu => by
    have := h j u hu
    by_cases e : j = 0
    · subst e; simpa [Addr.add] using this
    · simpa [Addr.add, e] using this⟩

theorem list_of {α : Type} {Q : Nat → α → Prop} : ∀ n, (∀ i, i < n → ∃ x, Q i x) → ∃ l : List α, l.length = n ∧ ∀ i (hi : i < l.length), Q i l[i]
  | 0, _ => ⟨[], rfl, fun _ h => absurd h (by simp)⟩
  | n + 1, h => by
    obtain ⟨l, hl, hq⟩ := list_of n fun i hi => h i (by omega)
    obtain ⟨x, hx⟩ := h n (by omega)
    refine ⟨l ++ [x], by simp [hl], fun i hi => ?_⟩
    by_cases e : i < l.length
    · rw [List.getElem_append_left e]; exact hq i e
    · have hi' : i = n := by simp at hi; omega
      subst hi'
      rw [List.getElem_append_right (by omega)]
      simpa [hl] using hx

section
variable {H : Type} {enc : TypeId × Value → H} {w : World}

theorem cellsS : Tryz.prog.cellsOf 9 = 1 := by kernel_rfl
theorem cellsI : Tryz.prog.cellsOf 3 = 1 := by kernel_rfl

/-- A []string. -/
theorem strs_open {fuel : Nat} {v : Value} {x : DataW H × List MemPlace} (h : DataW.trod enc Tryz.prog w 0 (fun _ => true) true fuel 22 [v] = some x) :
    ∃ (A : Option Addr) (c : Nat) (T : List ByteArray), v = .slice A T.length c ∧ Row w w.heap.size A (strs T) ∧ T.length ≤ c ∧ T.length ≤ Rows.uptoBulk x.1 := by
  rcases open_strings Tryz.underlying22 Tryz.underlying9 cellsS h with ⟨e, rfl⟩ | ⟨a, len, cap, ss, e, _, hl, _, hss, rfl, hc, _⟩
  · exact ⟨none, 0, [], List.cons.inj e |>.1, Row.nil_, by simp, by simp⟩
  · simp only [if_true] at hss
    have ht : (ss.take len).length = len := by simp; omega
    refine ⟨some a, cap, ss.take len, by rw [ht]; exact (List.cons.inj e).1, row_of fun i u hu => ?_, by omega, ?_⟩
    · simp only [strs, List.getElem?_map, Option.map_eq_some_iff] at hu
      obtain ⟨s, hs, rfl⟩ := hu
      obtain ⟨hi, hs⟩ := List.getElem?_eq_some_iff.1 hs
      have hi' : i < ss.length := by rw [ht] at hi; omega
      rw [hc i hi', ← hs]
      simp [hi']
    · refine Nat.le_trans ?_ (bulk_slice _ _).1
      simp [ChangeShapes.strs]

/-- A []int. -/
theorem ints_open {fuel : Nat} {v : Value} {x : DataW H × List MemPlace} (h : DataW.trod enc Tryz.prog w 0 (fun _ => true) true fuel 43 [v] = some x) :
    ∃ (A : Option Addr) (c : Nat) (l : List Int), v = .slice A l.length c ∧ Row w w.heap.size A (nums l) ∧ l.length ≤ c ∧ l.length ≤ Rows.uptoBulk x.1 := by
  rcases open_ints Tryz.underlying43 Tryz.underlying3 cellsI h with ⟨e, rfl⟩ | ⟨a, len, cap, zs, e, _, hl, _, hss, rfl, hc, _⟩
  · exact ⟨none, 0, [], List.cons.inj e |>.1, Row.nil_, by simp, by simp⟩
  · simp only [if_true] at hss
    have ht : (zs.take len).length = len := by simp; omega
    refine ⟨some a, cap, zs.take len, by rw [ht]; exact (List.cons.inj e).1, row_of fun i u hu => ?_, by omega, ?_⟩
    · simp only [nums, List.getElem?_map, Option.map_eq_some_iff] at hu
      obtain ⟨s, hs, rfl⟩ := hu
      obtain ⟨hi, hs⟩ := List.getElem?_eq_some_iff.1 hs
      have hi' : i < zs.length := by rw [ht] at hi; omega
      rw [hc i hi', ← hs]
      simp [hi']
    · refine Nat.le_trans ?_ (bulk_slice _ _).1
      simp [lits]

theorem cellsRule : Tryz.prog.cellsOf 61 = 2 := by kernel_rfl
/-- A []api.Rule. -/
theorem rules_open {fuel : Nat} {v : Value} {x : DataW H × List MemPlace} (h : DataW.trod enc Tryz.prog w 0 (fun _ => true) true fuel 23 [v] = some x) (hx : Rows.uptoBulk x.1 ≤ 1048576) :
    ∃ (A : Option Addr) (c : Nat) (R : List Rl), v = .slice A R.length c ∧ RulesIn w w.heap.size A c R ∧ R.length ≤ 1048576 ∧ ∀ r ∈ R, r.right.length ≤ 1048576 := by
  rcases open_slice_fields Tryz.underlying23 Tryz.underlying61 (by kernel_rfl) cellsRule h with ⟨e, rfl⟩ | ⟨a, len, cap, m, D, Pl, e, _, hl, _, rfl, rfl, hi⟩
  · exact ⟨none, 0, [], List.cons.inj e |>.1, ⟨Row.nil_, by simp, by simp, by simp⟩, by simp, by simp⟩
  · dsimp only at hx
    have hlen : len ≤ 1048576 := by
      have := (bulk_slice ((List.range len).map D) ((List.range (m - len)).map fun j => D (len + j))).1
      simp at this
      omega
    have hall := (bulk_slice ((List.range len).map D) ((List.range (m - len)).map fun j => D (len + j))).2
    obtain ⟨R, hR, hQ⟩ := list_of (Q := fun i (r : Rl) => w.cell? (a.add (i * 2)) = some (.int .i64 r.left) ∧ w.cell? (a.add (i * 2 + 1)) = some (.slice r.A r.right.length r.c) ∧ Row w w.heap.size r.A (nums r.right) ∧ r.right.length ≤ r.c ∧ r.right.length ≤ 1048576) len (fun i hil => by
      obtain ⟨ys, n, hD, _, hyl, hf⟩ := hi i (by omega)
      obtain ⟨v0, y0, c0, e0, t0⟩ := hf 0 _ rfl
      obtain ⟨v1, y1, c1, e1, t1⟩ := hf 1 _ rfl
      obtain ⟨k, hk, _, _⟩ := DataW.trod_int Tryz.underlying3 t0
      obtain ⟨A, c, l, rfl, hrow, hlc, hlb⟩ := ints_open t1
      obtain rfl := (List.cons.inj hk).1
      have h1 : Rows.uptoBulk (D i) ≤ Rows.uptoBulkAll ((List.range len).map D) := bulk_part (List.mem_map.2 ⟨i, List.mem_range.2 hil, rfl⟩)
      have h2 : Rows.uptoBulk y1.1 ≤ Rows.uptoBulk (D i) := by
        rw [hD]
        exact bulk_agg (List.mem_map.2 ⟨y1, List.mem_of_getElem? e1, rfl⟩)
      exact ⟨⟨k, l, A, c⟩, c0, c1, hrow, hlc, by show l.length ≤ _; omega⟩)
    have each : ∀ r ∈ R, Row w w.heap.size r.A (nums r.right) ∧ r.right.length ≤ r.c ∧ r.right.length ≤ 1048576 := fun r hr => by
      obtain ⟨i, hi, rfl⟩ := List.getElem_of_mem hr
      exact (hQ i hi).2.2
    refine ⟨some a, m, R, by rw [hR]; exact (List.cons.inj e).1, ⟨row_of fun i u hu => ?_, by omega, by omega, fun r hr => ⟨(each r hr).1, (each r hr).2.1, by have := (each r hr).2.2; omega⟩⟩, by omega, fun r hr => (each r hr).2.2⟩
    have hi : i < 2 * R.length := by
      have := (List.getElem?_eq_some_iff.1 hu).1
      rwa [ruleCells_length] at this
    obtain ⟨g0, g1⟩ := ruleCells_at R (i / 2) (by omega)
    have q := hQ (i / 2) (by omega)
    rcases Nat.mod_two_eq_zero_or_one i with h | h
    · rw [show i = 2 * (i / 2) by omega, g0] at hu
      cases hu
      rw [← q.1]
      congr 2; omega
    · rw [show i = 2 * (i / 2) + 1 by omega, g1] at hu
      cases hu
      rw [← q.2.1]
      congr 2; omega

theorem cellsGrammar : Tryz.prog.cellsOf 25 = 4 := by kernel_rfl
set_option maxRecDepth 100000 in
/-- An api.Grammar by value. -/
theorem grammar_open {r : Reach} {b0 : Nat} {v : Value} {d : DataW H} {p : List MemPlace} (hv : Value.okWide Tryz.prog w r b0 25 v) (h : DataW.Trod enc Tryz.prog w 0 (fun _ => true) true 25 v d p) (hd : Rows.uptoBulk d ≤ 1048576) :
    ∃ g : GV, v = g.val ∧ g.In w w.heap.size ∧ g.T.length ≤ 1048576 ∧ g.N.length ≤ 1048576 ∧ g.R.length ≤ 1048576 ∧ ∀ r ∈ g.R, r.right.length ≤ 1048576 := by
  obtain ⟨v0, v1, v2, v3, y0, y1, y2, y3, n, rfl, rfl, _, t0, t1, t2, t3⟩ := open_agg4 Tryz.underlying25 (by kernel_rfl) cellsGrammar hv h
  have b0 : Rows.uptoBulk y0.1 ≤ 1048576 := Nat.le_trans (bulk_agg (by simp)) hd
  have b1 : Rows.uptoBulk y1.1 ≤ 1048576 := Nat.le_trans (bulk_agg (by simp)) hd
  have b3 : Rows.uptoBulk y3.1 ≤ 1048576 := Nat.le_trans (bulk_agg (by simp)) hd
  obtain ⟨AT, cT, T, rfl, rT, lT, uT⟩ := strs_open t0
  obtain ⟨AN, cN, N, rfl, rN, lN, uN⟩ := strs_open t1
  obtain ⟨k, hk, _, _⟩ := DataW.trod_int Tryz.underlying3 t2
  obtain rfl := (List.cons.inj hk).1
  obtain ⟨AR, cR, R, rfl, hR, uR, rR⟩ := rules_open t3 b3
  exact ⟨⟨T, AT, cT, N, AN, cN, k, R, AR, cR⟩, rfl, ⟨rT, rN, hR, ⟨lT, by show T.length ≤ _; omega⟩, ⟨lN, by show N.length ≤ _; omega⟩⟩, by show T.length ≤ _; omega, by show N.length ≤ _; omega, uR, rR⟩

theorem cellsStep : Tryz.prog.cellsOf 42 = 3 := by kernel_rfl
set_option maxRecDepth 100000 in
/-- A []api.Step. -/
theorem steps_open {r : Reach} {b0 : Nat} {v : Value} {d : DataW H} {p : List MemPlace} (hv : Value.okWide Tryz.prog w r b0 26 v) (h : DataW.Trod enc Tryz.prog w 0 (fun _ => true) true 26 v d p) (hd : Rows.uptoBulk d ≤ 1048576) :
    ∃ (A : Option Addr) (c : Nat) (l : List (Int × Int × Int)), v = .slice A l.length c ∧ Row w w.heap.size A (stepCells l) ∧ l.length ≤ 1048576 ∧ l.length ≤ c ∧
      ∀ s ∈ l, (-9223372036854775808 ≤ s.1 ∧ s.1 ≤ 9223372036854775807) ∧ (-9223372036854775808 ≤ s.2.1 ∧ s.2.1 ≤ 9223372036854775807) ∧ -9223372036854775808 ≤ s.2.2 ∧ s.2.2 ≤ 9223372036854775807 := by
  obtain ⟨a0, len0, cap0, rfl⟩ := okWide_slice Tryz.underlying26 hv
  obtain ⟨fuel, hf⟩ := h
  rcases open_slice_fields Tryz.underlying26 Tryz.underlying42 (by kernel_rfl) cellsStep hf with ⟨e, e'⟩ | ⟨a, len, cap, m, D, Pl, e, _, hl, _, rfl, e', hi⟩
  · exact ⟨none, 0, [], List.cons.inj e |>.1, Row.nil_, by simp, by simp, by simp⟩
  · obtain rfl := (Prod.mk.inj e').1
    have hlen : len ≤ 1048576 := by
      have := (bulk_slice ((List.range len).map D) ((List.range (m - len)).map fun j => D (len + j))).1
      simp at this
      omega
    obtain ⟨l, hL, hQ⟩ := list_of (Q := fun i (s : Int × Int × Int) => w.cell? (a.add (i * 3)) = some (.int .i64 s.1) ∧ w.cell? (a.add (i * 3 + 1)) = some (.int .i64 s.2.1) ∧ w.cell? (a.add (i * 3 + 2)) = some (.int .i64 s.2.2) ∧
        (-9223372036854775808 ≤ s.1 ∧ s.1 ≤ 9223372036854775807) ∧ (-9223372036854775808 ≤ s.2.1 ∧ s.2.1 ≤ 9223372036854775807) ∧ -9223372036854775808 ≤ s.2.2 ∧ s.2.2 ≤ 9223372036854775807) len (fun i hil => by
      obtain ⟨ys, n, hD, _, hyl, hf⟩ := hi i (by omega)
      obtain ⟨v0, y0, c0, e0, t0⟩ := hf 0 _ rfl
      obtain ⟨v1, y1, c1, e1, t1⟩ := hf 1 _ rfl
      obtain ⟨v2, y2, c2, e2, t2⟩ := hf 2 _ rfl
      obtain ⟨k0, hk0, _, w0⟩ := DataW.trod_int Tryz.underlying3 t0
      obtain ⟨k1, hk1, _, w1⟩ := DataW.trod_int Tryz.underlying3 t1
      obtain ⟨k2, hk2, _, w2⟩ := DataW.trod_int Tryz.underlying3 t2
      obtain rfl := (List.cons.inj hk0).1
      obtain rfl := (List.cons.inj hk1).1
      obtain rfl := (List.cons.inj hk2).1
      exact ⟨(k0, k1, k2), c0, c1, c2, bounds_i64 w0, bounds_i64 w1, bounds_i64 w2⟩)
    refine ⟨some a, m, l, by rw [hL]; exact (List.cons.inj e).1, row_of fun i u hu => ?_, by omega, by omega, fun s hs => ?_⟩
    · have hi : i < l.length * 3 := by
        have := (List.getElem?_eq_some_iff.1 hu).1
        rwa [stepCells_length] at this
      obtain ⟨g0, g1, g2⟩ := stepCells_at l (i / 3) (by omega)
      have q := hQ (i / 3) (by omega)
      have hm : i = i / 3 * 3 ∨ i = i / 3 * 3 + 1 ∨ i = i / 3 * 3 + 2 := by omega
      rcases hm with h | h | h
      · rw [h, g0] at hu
        cases hu
        exact (congrArg (fun k => w.cell? (a.add k)) h).trans q.1
      · rw [h, g1] at hu
        cases hu
        exact (congrArg (fun k => w.cell? (a.add k)) h).trans q.2.1
      · rw [h, g2] at hu
        cases hu
        exact (congrArg (fun k => w.cell? (a.add k)) h).trans q.2.2.1
    · obtain ⟨i, hi, rfl⟩ := List.getElem_of_mem hs
      exact (hQ i hi).2.2.2
end
end Go.Proofs.YtoidecclimhgjaaGreatDoor
