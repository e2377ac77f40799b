/- deriv.walk: a walk by a whole tree, its panic caught. -/
import Derived.Test.YtoidecclimhgjaaGreatDoorWalker2
import Derived.Recover
import Derived.Defers
namespace Go.Proofs.YtoidecclimhgjaaGreatDoor
open Go.RowKit
theorem asn_nil (w : World) : (Instr.typeAssert .nilIface 20 139 true).run Tryz.prog w = .ok (.tuple #[.agg #[.nilIface], .bool false]) w := by kernel_rfl
theorem asn_fault (v : Value) (w : World) : (Instr.typeAssert (.iface 139 v) 20 139 true).run Tryz.prog w = .ok (.tuple #[v, .bool true]) w := by kernel_rfl

set_option maxHeartbeats 400000 in
theorem walk1_ret (g : Nat) (w : World) :
    CallsD Tryz.prog 76 #[.pointer (some ⟨g, 0, none⟩)] .returning w fun e u' w' => e = .returned (.tuple #[]) ∧ u' = .returning ∧ w' = w.alloc (.cells #[.nilIface] 139) := by
  have a0 := asn_nil
  refine callsD_of_wpS Tryz.func76 rfl fun c₀ cs hu => ?_
  apply wpS_seq
  apply wpS_region
  simp [wpOpsS, go_sem, recoverD, hu, Tryz.ntmps76, Exit.thenS, Array.replicate]
  refine wpS_of_wp ?_
  go_wp2_with fail
  exact ⟨rfl, .returning, by cases c₀; simp_all, _, results_none rfl _ _ _, rfl, rfl, rfl⟩

set_option maxHeartbeats 400000 in
theorem walk1_panic (g : Nat) (a : Addr) (v : Value) (older : List PanicEntry) (w : World) (_hc : w.cell? ⟨g, 0, none⟩ = some v) (_hf : w.frozen? ⟨g, 0, none⟩ = false) (_hg : g < w.heap.size) :
    CallsD Tryz.prog 76 #[.pointer (some ⟨g, 0, none⟩)] (.panicking ({ v := .iface 139 (.agg #[ev a]), recovered := false } :: older)) w fun e u' w' =>
      e = .returned (.tuple #[]) ∧ u' = .panicking ({ v := .iface 139 (.agg #[ev a]), recovered := true } :: older) ∧ w' = (w.setCell ⟨g, 0, none⟩ (ev a)).alloc (.cells #[ev a] 139) := by
  have a1 := asn_fault
  refine callsD_of_wpS Tryz.func76 rfl fun c₀ cs hu => ?_
  apply wpS_seq
  apply wpS_region
  simp [wpOpsS, go_sem, recoverD, hu, Tryz.ntmps76, Exit.thenS, Array.replicate]
  refine wpS_of_wp ?_
  go_wp2_with fail
  exact ⟨rfl, _, by cases c₀; simp_all, _, results_none rfl _ _ _, rfl, rfl, rfl⟩

/-- A walk by all rules as one tree; none: it is given up. -/
def walkF (R : List (Int × List Int)) (ru : List Int) (nt from_ : Int) (any : Bool) : Option St :=
  (nodeF R ru (ru.length + 1) ⟨0, from_, [], [], 0⟩ nt 1 any).bind fun s => if s.at_ < ru.length then none else some s

/-- What the walk answers. -/
def WalkEnd (e : Nat → Addr) (G : GV) (Ar : Option Addr) (cr : Nat) (ru : List Int) (w : World) (r : Option St) (en : Ending) (w' : World) : Prop :=
  Below w.heap.size w w' ∧ match r with
    | some s => ∃ g, en = .returned (.tuple #[.pointer (some ⟨g, 0, none⟩), .nilIface]) ∧ w.heap.size ≤ g ∧ ∃ B, w.heap.size ≤ B ∧ Wk w' B g G Ar cr ru s
    | none => ∃ p, en = .returned (.tuple #[.pointer p, ev (e 11)])

set_option maxHeartbeats 2000000 in
theorem walk_any (e : Nat → Addr) (w : World) (hE : GE w e) (G : GV) (hG : G.In w w.heap.size) (Ar : Option Addr) (cr : Nat) (ru : List Int) (hr : Row w w.heap.size Ar (nums ru))
    (h32 : ∀ r ∈ G.R, r.right.length ≤ 32) (hsy : ∀ r ∈ G.R, ∀ x ∈ r.right, -4611686018427387904 ≤ x) (hru : ru.length ≤ 131072) (nt from_ : Int) (any : Bool) :
    Calls Tryz.prog 49 #[G.val, .slice Ar ru.length cr, .int .i64 nt, .int .i64 from_, .bool any] w (WalkEnd e G Ar cr ru w (walkF (G.R.map Rl.p) ru nt from_ any)) := by
  have hmf : ∀ (fn : Fn) (first cap : Array Value) (w : World), (Instr.makeFunc fn first cap).run Tryz.prog w = .ok (.func fn first cap) w := fun _ _ _ _ => rfl
  obtain ⟨W1, hW1⟩ : ∃ W1, W1 = (w.alloc (.cells G.cells 25)).alloc (.cells #[.nilIface] 30) := ⟨_, rfl⟩
  have hb1 : Below w.heap.size w W1 := by rw [hW1]; exact ((Below.refl _ _).alloc (Nat.le_refl _) _).alloc (by simp) _
  have hz1 : W1.heap.size = w.heap.size + 2 := by rw [hW1]; simp
  have hnode := node_any e W1 (hE.below hb1) G ((hG.below hb1).more hb1.size) Ar cr ru ((hr.below hb1).more hb1.size) (w.heap.size + 2) (by omega) h32 hsy hru (ru.length + 1) ⟨0, from_, [], [], 0⟩ nt 1 any
    (W1.alloc (.cells #[.slice G.AT G.T.length G.cT, .slice G.AN G.N.length G.cN, .int .i64 G.ax, .slice G.AR G.R.length G.cR, .slice Ar ru.length cr, .int .i64 0, .int .i64 from_, .slice none 0 0, .slice none 0 0, .int .i64 0] 75))
    ((Below.refl _ _).alloc (Nat.le_refl _) _) ⟨none, 0, none, 0, by rw [← hz1]; exact Blk.new _ _ _, World.ownsRow_nil _ _ _ _, World.ownsRow_nil _ _ _ _⟩ ⟨rfl, Nat.zero_le _, by simp⟩ (by simp) (by omega) (by omega)
  rw [hW1] at hnode
  have H := Lib.hid hnode
  clear hnode
  go_enter_defers Tryz.func49, Tryz.ntmps49
  go_wp2_with fail
  refine H.out.mono ?_
  rintro en w2 ⟨hb2, h⟩
  simp only [World.size_alloc] at hb2
  have e1 : w2.cell? ⟨w.heap.size + 1, 0, none⟩ = some .nilIface := (hb2.cell (by simp)).trans (by go_simp)
  have f1 : w2.frozen? ⟨w.heap.size + 1, 0, none⟩ = false := (hb2.frozen (by simp)).trans (by go_simp)
  have s1 : w.heap.size + 1 < w2.heap.size := by have := hb2.size; simp at this; omega
  have hbw : Below w.heap.size w w2 := ((((Below.refl _ _).alloc (Nat.le_refl _) _).alloc (by simp) _).alloc (by simp; omega) _).trans (hb2.mono (by omega))
  cases hr2 : nodeF (G.R.map Rl.p) ru (ru.length + 1) ⟨0, from_, [], [], 0⟩ nt 1 any with
  | none =>
    rw [hr2] at h
    obtain rfl := h
    have Hr2 := Lib.hid hr2
    clear hr2 H
    go_wp2_with fail
    refine leaves_cons (f := 76) (args := #[.pointer (some ⟨w.heap.size + 1, 0, none⟩)]) (by simp) (by simp [go_sem]) ?_
    refine (walk1_panic (w.heap.size + 1) (e 11) .nilIface [] w2 e1 f1 s1).mono ?_
    rintro en u' w' ⟨rfl, rfl, rfl⟩
    have e2 : ((w2.setCell ⟨w.heap.size + 1, 0, none⟩ (ev (e 11))).alloc (.cells #[ev (e 11)] 139)).cell? ⟨w.heap.size + 1, 0, none⟩ = some (ev (e 11)) := by go_simp
    simp [Leaves, settle, results, Tryz.results49, go_sem, e2, Result.andThen]
    exact ⟨(hbw.setCell (p := ⟨w.heap.size + 1, 0, none⟩) (by simp) _).alloc (by simp [World.setCell]; omega) _, by rw [walkF, Hr2.out]; exact ⟨_, rfl⟩⟩
  | some s =>
    rw [hr2] at h
    obtain ⟨rfl, hw⟩ := h
    have Hr2 := Lib.hid hr2
    clear hr2 H
    obtain ⟨At, ct, Ak, ck, hB, hT, hK⟩ := hw
    have q5 := hB.cell 5
    simp only [List.getElem?_toArray, List.getElem?_cons_zero, List.getElem?_cons_succ] at q5
    have hE2 := hE.below hbw
    have hz2 := hE2.size
    have z0 : 0 < w2.heap.size := by omega
    have s11 : gno 11 < w2.heap.size := Nat.lt_of_lt_of_le (gno_lt 11) hE2.size
    have c11 := hE2.cell 11 (by omega) (by omega)
    simp only [gno] at s11 c11
    by_cases hlt : s.at_ < ru.length
    · go_wp2_with fail
      go_region
      go_wp2_with fail
      refine leaves_cons (f := 76) (args := #[.pointer (some ⟨w.heap.size + 1, 0, none⟩)]) (by simp) (by simp [go_sem]) ?_
      refine (walk1_ret (w.heap.size + 1) _).mono ?_
      rintro en u' w' ⟨rfl, rfl, rfl⟩
      have e2 : ((w2.setCell ⟨w.heap.size + 1, 0, none⟩ (ev (e 11))).alloc (.cells #[.nilIface] 139)).cell? ⟨w.heap.size + 1, 0, none⟩ = some (ev (e 11)) := by go_simp
      simp [Leaves, settle, results, Tryz.results49, go_sem, e2, Result.andThen]
      exact ⟨below_dN ((hbw.setCell (p := ⟨w.heap.size + 1, 0, none⟩) (by simp) _).alloc (by simp [World.setCell]; omega) _) 1, by rw [walkF, Hr2.out]; simp only [Option.bind_some, if_pos hlt]; exact ⟨_, rfl⟩⟩
    · go_wp2_with fail
      refine leaves_cons (f := 76) (args := #[.pointer (some ⟨w.heap.size + 1, 0, none⟩)]) (by simp) (by simp [go_sem]) ?_
      refine (walk1_ret (w.heap.size + 1) _).mono ?_
      rintro en u' w' ⟨rfl, rfl, rfl⟩
      have e2 : ((w2.setCell ⟨w.heap.size + 1, 0, none⟩ .nilIface).alloc (.cells #[.nilIface] 139)).cell? ⟨w.heap.size + 1, 0, none⟩ = some .nilIface := by go_simp
      simp [Leaves, settle, results, Tryz.results49, go_sem, e2, Result.andThen]
      simp only [World.size_alloc] at hT hK
      refine ⟨(hbw.setCell (p := ⟨w.heap.size + 1, 0, none⟩) (by simp) _).alloc (by simp [World.setCell]; omega) _, ?_⟩
      rw [walkF, Hr2.out]
      simp only [Option.bind_some, if_neg hlt]
      exact ⟨w.heap.size + 2, rfl, by omega, w.heap.size + 2, by omega, At, ct, Ak, ck, (hB.far (p := ⟨w.heap.size + 1, 0, none⟩) (by simp) _).alloc _, (ownsRow_setCell_below hT (by simp) _).alloc _, (ownsRow_setCell_below hK (by simp) _).alloc _⟩
end Go.Proofs.YtoidecclimhgjaaGreatDoor
