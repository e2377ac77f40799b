/- (*deriv.walker).node: the walk by a tree. -/
import Derived.Test.YtoidecclimhgjaaGreatDoorDeriv1
import Derived.Test.YtoidecclimhgjaaGreatDoorPTree
import Derived.Deep.AppendLies
import Derived.Deep.RegionLaw
import Derived.Laws.OwnMore
import Derived.Deep.RegionHeld3
import Derived.Deep.DeepCutAuto
import Derived.Deep.CutBlock
namespace Go.Proofs.YtoidecclimhgjaaGreatDoor
open Go.RowKit

/-- Block g is just the cells cs of the element type t, none of them frozen. -/
def Blk (w : World) (g : Nat) (t : TypeId) (cs : Array Value) : Prop := w.heap[g]? = some (.cells cs t (0, 0))
section
variable {w w' : World} {g : Nat} {t : TypeId} {cs : Array Value}
theorem Blk.lt (h : Blk w g t cs) : g < w.heap.size := by
  rcases Nat.lt_or_ge g w.heap.size with hlt | hge
  · exact hlt
  · unfold Blk at h; rw [Array.getElem?_eq_none hge] at h; cases h
theorem Blk.cell (h : Blk w g t cs) (i : Nat) : w.cell? ⟨g, i, none⟩ = cs[i]? := cell_of_row w g i cs t (0, 0) h
theorem Blk.frozen (h : Blk w g t cs) (i : Nat) : w.frozen? ⟨g, i, none⟩ = false := by
  unfold Blk at h
  simp [World.frozen?, h]
theorem Blk.new (w : World) (t : TypeId) (cs : Array Value) : Blk (w.alloc (.cells cs t)) w.heap.size t cs := heap_alloc_new w _
theorem Blk.drewN (h : Blk w g t cs) (n : Nat) : Blk (w.drewN n) g t cs := h
theorem Blk.alloc (h : Blk w g t cs) (o : Obj) : Blk (w.alloc o) g t cs := (Below.heap_alloc w o g h.lt).trans h
theorem Blk.set_ (h : Blk w g t cs) (i : Nat) (u : Value) : Blk (w.setCell ⟨g, i, none⟩ u) g t (cs.setIfInBounds i u) := by
  unfold Blk at h ⊢
  simp [World.setCell, Array.getElem?_modify, h]
theorem Blk.far (h : Blk w g t cs) {p : Addr} (hp : g ≠ p.block) (u : Value) : Blk (w.setCell p u) g t cs := (Below.heap_setCell w p u g hp).trans h
theorem Blk.below {B : Nat} (h : Blk w g t cs) (hb : Below B w w') (hg : g < B) : Blk w' g t cs := (hb.block g hg).trans h
theorem Blk.grown {row : Option Nat} (h : Blk w g t cs) (hb : w.grownBy w' row) (hg : some g ≠ row) : Blk w' g t cs := (hb.block g h.lt hg).trans h
end
/-- An owned row and a block of another element type are two blocks. -/
theorem own_ne {w : World} {base : Nat} {e t : TypeId} {size n g : Nat} {v : Value} {xs : List Value} {cs : Array Value} (h : w.ownsRow base e size v n xs) (hg : Blk w g t cs) (hne : e ≠ t) : v.ownBlock ≠ some g := by
  rcases h.2 with ⟨rfl, _⟩ | ⟨g', cap, cur, rfl, _, hh, _⟩
  · simp [Value.ownBlock]
  · intro he
    have : g' = g := by simpa [Value.ownBlock] using he
    subst this
    unfold Blk at hg; rw [hh] at hg
    simp only [Option.some.injEq, Obj.cells.injEq] at hg
    exact hne hg.2.1
theorem own_own {w : World} {b1 b2 : Nat} {e1 e2 : TypeId} {s1 s2 n1 n2 : Nat} {v1 v2 : Value} {x1 x2 : List Value} (h1 : w.ownsRow b1 e1 s1 v1 n1 x1) (h2 : w.ownsRow b2 e2 s2 v2 n2 x2) (hne : e1 ≠ e2) : v1.ownBlock = none ∨ v1.ownBlock ≠ v2.ownBlock := by
  rcases h2.2 with ⟨rfl, _⟩ | ⟨g', cap, cur, rfl, _, hh, _⟩
  · cases hv : v1.ownBlock <;> simp [Value.ownBlock]
  · exact Or.inr (by simpa [Value.ownBlock] using own_ne (t := e2) (cs := cur) h1 hh hne)
theorem own_form {w : World} {base : Nat} {e : TypeId} {size n : Nat} {v : Value} {xs : List Value} (h : w.ownsRow base e size v n xs) : ∃ A c, v = .slice A n c := by
  rcases h.2 with ⟨rfl, rfl⟩ | ⟨g', cap, cur, rfl, _⟩
  · exact ⟨_, _, rfl⟩
  · exact ⟨_, _, rfl⟩

theorem setFar (w : World) (g i : Nat) (u : Value) : w.grownBy (w.setCell ⟨g, i, none⟩ u) (some g) :=
  ⟨rfl, rfl, rfl, by simp [World.setCell], fun k _ hne => Below.heap_setCell _ _ _ _ (fun h => hne (by rw [h]))⟩
theorem own_setFar {w : World} {base : Nat} {e t : TypeId} {size n g : Nat} {v : Value} {xs : List Value} {cs : Array Value} (h : w.ownsRow base e size v n xs) (hg : Blk w g t cs) (hne : e ≠ t) (i : Nat) (u : Value) : (w.setCell ⟨g, i, none⟩ u).ownsRow base e size v n xs :=
  h.kept (setFar w g i u) (Or.inr (own_ne h hg hne))
theorem own_drewN {w : World} {base : Nat} {e : TypeId} {size n : Nat} {v : Value} {xs : List Value} (h : w.ownsRow base e size v n xs) (k : Nat) : (w.drewN k).ownsRow base e size v n xs := h

theorem own_row {w : World} {base : Nat} {e : TypeId} {size n c : Nat} {A : Option Addr} {xs : List Value} (h : w.ownsRow base e size (.slice A n c) n xs) : Row w w.heap.size A xs := fun hn => by
  have hn0 : 0 < n := by
    rcases Nat.eq_zero_or_pos n with h0 | h0
    · subst h0; have := h.1; simp at this; subst this; simp at hn
    · exact h0
  obtain ⟨g, cap, hv, _, hlt⟩ := h.form hn0
  simp only [Value.slice.injEq, true_and] at hv
  obtain ⟨rfl, rfl⟩ := hv
  refine ⟨g, 0, rfl, hlt, fun j u hu => ?_⟩
  have hj : j < n * size := by rw [← h.1]; exact (List.getElem?_eq_some_iff.1 hu).1
  rw [Nat.zero_add, h.cellAt j hj, hu]
theorem own_cap {w : World} {base : Nat} {e : TypeId} {size n c : Nat} {A : Option Addr} {xs : List Value} (h : w.ownsRow base e size (.slice A n c) n xs) : n ≤ c := by
  rcases h.2 with ⟨hv, rfl⟩ | ⟨g', cap, cur, hv, _, _, hc, _⟩
  · exact Nat.zero_le _
  · simp only [Value.slice.injEq, true_and] at hv; omega
theorem own_mono {w : World} {base b' : Nat} {e : TypeId} {size n : Nat} {v : Value} {xs : List Value} (h : w.ownsRow base e size v n xs) (hb : b' ≤ base) : w.ownsRow b' e size v n xs := by
  refine ⟨h.1, ?_⟩
  rcases h.2 with hn | ⟨g', cap, cur, hv, hg, r⟩
  · exact .inl hn
  · exact .inr ⟨g', cap, cur, hv, Nat.le_trans hb hg, r⟩

def stepCells (l : List (Int × Int × Int)) : List Value := l.flatMap fun s => [.int .i64 s.1, .int .i64 s.2.1, .int .i64 s.2.2]

theorem stepCells_length (l : List (Int × Int × Int)) : (stepCells l).length = l.length * 3 := by
  induction l with
  | nil => rfl
  | cons a l ih => simp only [stepCells, List.flatMap_cons, List.length_append, List.length_cons, List.length_nil] at ih ⊢; omega
theorem stepCells_to (l : List (Int × Int × Int)) (k : Nat) (hk : k < l.length) (v : Int) : (stepCells l).set (k * 3 + 2) (.int .i64 v) = stepCells (l.modify k fun t => (t.1, t.2.1, v)) ∧ (stepCells l)[k * 3 + 2]? = some (.int .i64 l[k].2.2) := by
  induction l generalizing k with
  | nil => simp at hk
  | cons a l ih =>
    cases k with
    | zero => exact ⟨rfl, rfl⟩
    | succ k =>
      obtain ⟨h1, h2⟩ := ih k (by simpa using hk)
      constructor
      · have e : (k + 1) * 3 + 2 = (k * 3 + 2) + 3 := by omega
        rw [e]
        show Value.int .i64 a.1 :: Value.int .i64 a.2.1 :: Value.int .i64 a.2.2 :: (stepCells l).set (k * 3 + 2) (.int .i64 v) = _
        rw [h1]; rfl
      · have e : (k + 1) * 3 + 2 = (k * 3 + 2) + 3 := by omega
        rw [e]; exact h2

/-- The walker at block g: the grammar, the rules, the state. -/
def Wk (w : World) (base g : Nat) (G : GV) (Ar : Option Addr) (cr : Nat) (ru : List Int) (s : St) : Prop :=
  ∃ At ct Ak ck, Blk w g 75 #[.slice G.AT G.T.length G.cT, .slice G.AN G.N.length G.cN, .int .i64 G.ax, .slice G.AR G.R.length G.cR, .slice Ar ru.length cr, .int .i64 s.at_, .int .i64 s.place, .slice At s.tree.length ct, .slice Ak s.toks.length ck, .int .i64 s.depth] ∧
    w.ownsRow base 42 3 (.slice At s.tree.length ct) s.tree.length (stepCells s.tree) ∧ w.ownsRow base 3 1 (.slice Ak s.toks.length ck) s.toks.length (nums s.toks)

/-- What a node leaves. -/
def NodeEnd (e : Nat → Addr) (base g : Nat) (G : GV) (Ar : Option Addr) (cr : Nat) (ru : List Int) (w : World) (r : Option St) (en : Ending) (w' : World) : Prop :=
  Below base w w' ∧ match r with
    | some s => en = .returned (.tuple #[]) ∧ Wk w' base g G Ar cr ru s
    | none => en = .panicked [{ v := .iface 139 (.agg #[ev (e 11)]), recovered := false }]

theorem Tryz.info42 : (Tryz.prog.info? 42).map (fun i => (i.zero, i.size, i.bytes)) = some (some (.agg #[.int .i64 0, .int .i64 0, .int .i64 0]), 3, 24) := by kernel_rfl
theorem Tryz.info3 : (Tryz.prog.info? 3).map (fun i => (i.zero, i.size, i.bytes)) = some (some (.int .i64 0), 1, 8) := by kernel_rfl

set_option maxHeartbeats 2000000 in
set_option maxRecDepth 100000 in
theorem node_bad (e : Nat → Addr) (w0 : World) (hE : GE w0 e) (G : GV) (hG : G.In w0 w0.heap.size) (Ar : Option Addr) (cr : Nat) (ru : List Int) (hr : Row w0 w0.heap.size Ar (nums ru)) (g : Nat)
    (k : Nat) (s : St) (nt deep : Int) (any : Bool) (w : World) (hb : Below w0.heap.size w0 w) (hw : Wk w w0.heap.size g G Ar cr ru s) (hle : s.at_ ≤ ru.length) (hbad : ¬ ∃ m : Nat, ∃ hm : m < G.R.length, ru[s.at_]? = some (m : Int) ∧ ¬ (any = false ∧ G.R[m].left ≠ nt)) :
      Calls Tryz.prog 77 #[.pointer (some ⟨g, 0, none⟩), .int .i64 nt, .int .i64 deep, .bool any] w (NodeEnd e w0.heap.size g G Ar cr ru w (nodeF (G.R.map Rl.p) ru (k + 1) s nt deep any)) := by
    obtain ⟨At, ct, Ak, ck, hB, hT, hK⟩ := hw
    have q3 := hB.cell 3; have q4 := hB.cell 4; have q5 := hB.cell 5
    simp only [List.getElem?_toArray, List.getElem?_cons_zero, List.getElem?_cons_succ] at q3 q4 q5
    have hz := (hE.below hb).size
    have z0 : 0 < w.heap.size := by omega
    have s11 : gno 11 < w.heap.size := Nat.lt_of_lt_of_le (gno_lt 11) (hE.below hb).size
    have c11 := (hE.below hb).cell 11 (by omega) (by omega)
    simp only [gno] at s11 c11
    by_cases hat : s.at_ < ru.length
    · obtain ⟨br, or, rfl, hbr, hcr⟩ := (hr.below hb).at_ (k := s.at_) (by simpa [nums] using hat)
      have hcr2 : w.cell? ⟨br, or + s.at_, none⟩ = some (.int .i64 ru[s.at_]) := by rw [hcr _ (by simpa [nums] using hat)]; simp [nums]
      have hsome : ru[s.at_]? = some ru[s.at_] := List.getElem?_eq_getElem hat
      clear hcr
      generalize ru[s.at_] = n at *
      have Hs := Lib.hid hsome
      clear hsome
      by_cases hn0 : n < 0
      · have hfin : nodeF (G.R.map Rl.p) ru (k + 1) s nt deep any = none := by simp only [nodeF]; rw [Hs.out]; simp only [if_pos hn0]
        rw [hfin]; clear hfin
        go_enter Tryz.func77, Tryz.ntmps77
        go_wp2_with fail
        go_quiet (fail)
        go_wp2_with fail
        go_quiet (fail)
        go_wp2_with fail
        exact ⟨rfl, below_dN (Below.refl _ _) _, rfl⟩
      by_cases hn1 : (G.R.length : Int) ≤ n
      · have hfin : nodeF (G.R.map Rl.p) ru (k + 1) s nt deep any = none := by
          simp only [nodeF]; rw [Hs.out]; simp only [if_neg hn0]; rw [List.getElem?_eq_none (by simp; omega)]
        rw [hfin]; clear hfin
        go_enter Tryz.func77, Tryz.ntmps77
        go_wp2_with fail
        go_quiet (fail)
        go_wp2_with fail
        go_quiet (fail)
        go_wp2_with fail
        exact ⟨rfl, below_dN (Below.refl _ _) _, rfl⟩
      obtain ⟨m, rfl⟩ := Int.eq_ofNat_of_zero_le (Int.not_lt.1 hn0)
      have hm : m < G.R.length := by omega
      obtain ⟨bR, oR, hAR, hbR, hR0, hR1⟩ := (hG.r.below hb).at_ hm
      rw [hAR] at q3
      by_cases hany : any = false ∧ G.R[m].left ≠ nt
      · obtain ⟨rfl, hne⟩ := hany
        have hne' : (G.R[m].left != nt) = true := by simpa using hne
        have hfin : nodeF (G.R.map Rl.p) ru (k + 1) s nt deep false = none := by
          simp only [nodeF]; rw [Hs.out]; simp only [if_neg hn0]; simp [Rl.p, hm, hne]
        rw [hfin]; clear hfin hne
        go_enter Tryz.func77, Tryz.ntmps77
        go_wp2_with fail
        go_quiet (fail)
        go_wp2_with fail
        go_quiet (fail)
        go_wp2_with fail
        exact ⟨rfl, below_dN (Below.refl _ _) _, rfl⟩
      · exact absurd ⟨m, hm, Hs.out, hany⟩ hbad
    · have hfin : nodeF (G.R.map Rl.p) ru (k + 1) s nt deep any = none := by simp only [nodeF]; rw [List.getElem?_eq_none (by omega)]
      rw [hfin]; clear hfin
      go_enter Tryz.func77, Tryz.ntmps77
      go_wp2_with fail
      go_quiet (fail)
      go_wp2_with fail
      exact ⟨rfl, below_dN (Below.refl _ _) _, rfl⟩
end Go.Proofs.YtoidecclimhgjaaGreatDoor
