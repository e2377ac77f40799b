/- Errors: what the package-level errors hold; grammars in memory. -/
import Derived.Test.YtoidecclimhgjaaGreatDoorBase
namespace Go.Proofs.YtoidecclimhgjaaGreatDoor
open Go.RowKit

/-- The package-level variable of an error, by its kind (1 to 15). -/
def gno : Nat → Nat
  | 1 => 1 | 2 => 2 | 3 => 3 | 4 => 4 | 5 => 5 | 6 => 6 | 7 => 7
  | 8 => 8 | 9 => 9 | 10 => 10 | 11 => 11 | 12 => 0 | 13 => 12 | 14 => 13 | _ => 14

/-- The value of an error of errors.New at an address. -/
abbrev ev (a : Addr) : Value := .iface 181 (.pointer (some a))

/-- The package-level errors hold fifteen different errors, whose addresses e tells. -/
structure GE (w : World) (e : Nat → Addr) : Prop where
  size : 20 ≤ w.heap.size
  cell : ∀ k, 1 ≤ k → k ≤ 15 → w.cell? ⟨gno k, 0, none⟩ = some (ev (e k))
  low : ∀ k, 1 ≤ k → k ≤ 15 → (e k).block < w.heap.size
  inj : ∀ j k, 1 ≤ j → j ≤ 15 → 1 ≤ k → k ≤ 15 → e j = e k → j = k
  row : ∀ k, 1 ≤ k → k ≤ 15 → ∃ cs t, w.heap[(e k).block]? = some (.cells cs t (0, 0))
theorem gno_lt (k : Nat) : gno k < 20 := by unfold gno; split <;> omega
theorem GE.below {w w' : World} {e : Nat → Addr} (h : GE w e) (hb : Below w.heap.size w w') : GE w' e :=
  ⟨Nat.le_trans h.size hb.size, fun k h1 h2 => (hb.cell (p := ⟨gno k, 0, none⟩) (Nat.lt_of_lt_of_le (gno_lt k) h.size)).trans (h.cell k h1 h2), fun k h1 h2 => Nat.lt_of_lt_of_le (h.low k h1 h2) hb.size, h.inj, fun k h1 h2 => by obtain ⟨cs, t, hr⟩ := h.row k h1 h2; exact ⟨cs, t, (hb.block _ (h.low k h1 h2)).trans hr⟩⟩
theorem GE.drewN {w : World} {e : Nat → Addr} (h : GE w e) (n : Nat) : GE (w.drewN n) e := ⟨h.size, h.cell, h.low, h.inj, h.row⟩

/-- What is wrong: nothing; an error of api by its kind; one of a rule, of a place, of a pair. -/
inductive Er where
  | ok
  | kind (k : Nat)
  | rule (i : Int) (k : Nat)
  | place (at_ : Int) (k : Nat)
  | pair (a b f s : Int) (k : Nat)
  deriving DecidableEq

def ErIs (w : World) (e : Nat → Addr) (v : Value) : Er → Prop
  | .ok => v = .nilIface
  | .kind k => 1 ≤ k ∧ k ≤ 15 ∧ v = ev (e k)
  | .rule i k => 1 ≤ k ∧ k ≤ 15 ∧ ∃ b, v = .iface 94 (.pointer (some ⟨b, 0, none⟩)) ∧ b < w.heap.size ∧ w.cell? ⟨b, 0, none⟩ = some (.int .i64 i) ∧ w.cell? ⟨b, 1, none⟩ = some (ev (e k))
  | .place i k => 1 ≤ k ∧ k ≤ 15 ∧ ∃ b, v = .iface 999999 (.pointer (some ⟨b, 0, none⟩)) ∧ b < w.heap.size ∧ w.cell? ⟨b, 0, none⟩ = some (.int .i64 i) ∧ w.cell? ⟨b, 1, none⟩ = some (ev (e k))
  | .pair a b f s k => 1 ≤ k ∧ k ≤ 15 ∧ ∃ g, v = .iface 999999 (.pointer (some ⟨g, 0, none⟩)) ∧ g < w.heap.size ∧ w.cell? ⟨g, 0, none⟩ = some (.int .i64 a) ∧ w.cell? ⟨g, 1, none⟩ = some (.int .i64 b) ∧
      w.cell? ⟨g, 2, none⟩ = some (.int .i64 f) ∧ w.cell? ⟨g, 3, none⟩ = some (.int .i64 s) ∧ w.cell? ⟨g, 4, none⟩ = some (ev (e k))
theorem ErIs.below {w w' : World} {e : Nat → Addr} {v : Value} {r : Er} (h : ErIs w e v r) (hb : Below w.heap.size w w') : ErIs w' e v r := by
  cases r with
  | ok => exact h
  | kind k => exact h
  | rule i k =>
    obtain ⟨h1, h2, b, hv, hlt, hc0, hc1⟩ := h
    exact ⟨h1, h2, b, hv, Nat.lt_of_lt_of_le hlt hb.size, (hb.cell (p := ⟨b, 0, none⟩) hlt).trans hc0, (hb.cell (p := ⟨b, 1, none⟩) hlt).trans hc1⟩
  | place i k =>
    obtain ⟨h1, h2, b, hv, hlt, hc0, hc1⟩ := h
    exact ⟨h1, h2, b, hv, Nat.lt_of_lt_of_le hlt hb.size, (hb.cell (p := ⟨b, 0, none⟩) hlt).trans hc0, (hb.cell (p := ⟨b, 1, none⟩) hlt).trans hc1⟩
  | pair a b f s k =>
    obtain ⟨h1, h2, g, hv, hlt, c0, c1, c2, c3, c4⟩ := h
    exact ⟨h1, h2, g, hv, Nat.lt_of_lt_of_le hlt hb.size, (hb.cell (p := ⟨g, 0, none⟩) hlt).trans c0, (hb.cell (p := ⟨g, 1, none⟩) hlt).trans c1, (hb.cell (p := ⟨g, 2, none⟩) hlt).trans c2, (hb.cell (p := ⟨g, 3, none⟩) hlt).trans c3, (hb.cell (p := ⟨g, 4, none⟩) hlt).trans c4⟩

theorem ErIs.form {w : World} {e : Nat → Addr} {v : Value} {r : Er} (h : ErIs w e v r) : (r = .ok ∧ v = .nilIface) ∨ (r ≠ .ok ∧ ∃ t x, v = .iface t x) := by
  cases r with
  | ok => exact .inl ⟨rfl, h⟩
  | kind k => exact .inr ⟨by simp, _, _, h.2.2⟩
  | rule i k => obtain ⟨_, _, b, hv, _⟩ := h; exact .inr ⟨by simp, _, _, hv⟩
  | place i k => obtain ⟨_, _, b, hv, _⟩ := h; exact .inr ⟨by simp, _, _, hv⟩
  | pair a b f s k => obtain ⟨_, _, b, hv, _⟩ := h; exact .inr ⟨by simp, _, _, hv⟩
/-- The call returns v; nothing that was there has turned. -/
def RetV (w : World) (v : Value) (en : Ending) (w' : World) : Prop := Below w.heap.size w w' ∧ en = .returned v

/-- The call returns an error that is r, in a world in which nothing that was there has turned. -/
def RetE (w : World) (e : Nat → Addr) (r : Er) (en : Ending) (w' : World) : Prop := Below w.heap.size w w' ∧ ∃ v, en = .returned v ∧ ErIs w' e v r

/-- A rule in memory. -/
structure Rl where
  left : Int
  right : List Int
  A : Option Addr
  c : Nat
def ruleCells (R : List Rl) : List Value := R.flatMap fun r => [.int .i64 r.left, .slice r.A r.right.length r.c]
/-- Rules in memory: below B, with room as said. -/
structure RulesIn (w : World) (B : Nat) (A : Option Addr) (c : Nat) (R : List Rl) : Prop where
  row : Row w B A (ruleCells R)
  le : R.length ≤ c
  cap : R.length ≤ 140737488355328
  each : ∀ r ∈ R, Row w B r.A (nums r.right) ∧ r.right.length ≤ r.c ∧ r.right.length ≤ 140737488355328
theorem RulesIn.below {w w' : World} {B : Nat} {A : Option Addr} {c : Nat} {R : List Rl} (h : RulesIn w B A c R) (hb : Below B w w') : RulesIn w' B A c R :=
  ⟨h.row.below hb, h.le, h.cap, fun r hr => ⟨(h.each r hr).1.below hb, (h.each r hr).2⟩⟩
theorem RulesIn.more {w : World} {B B' : Nat} {A : Option Addr} {c : Nat} {R : List Rl} (h : RulesIn w B A c R) (hB : B ≤ B') : RulesIn w B' A c R :=
  ⟨h.row.more hB, h.le, h.cap, fun r hr => ⟨(h.each r hr).1.more hB, (h.each r hr).2⟩⟩
theorem ruleCells_length (R : List Rl) : (ruleCells R).length = 2 * R.length := by
  induction R with
  | nil => rfl
  | cons r R ih => simp only [ruleCells, List.flatMap_cons, List.length_append, List.length_cons, List.length_nil] at ih ⊢; omega
theorem ruleCells_at (R : List Rl) (k : Nat) (hk : k < R.length) : (ruleCells R)[2 * k]? = some (.int .i64 R[k].left) ∧ (ruleCells R)[2 * k + 1]? = some (.slice R[k].A R[k].right.length R[k].c) := by
  induction R generalizing k with
  | nil => simp at hk
  | cons r R ih =>
    cases k with
    | zero => exact ⟨rfl, rfl⟩
    | succ k =>
      obtain ⟨h0, h1⟩ := ih k (by simpa using hk)
      constructor
      · rw [show 2 * (k + 1) = 2 * k + 2 by omega]; exact h0
      · rw [show 2 * (k + 1) + 1 = 2 * k + 1 + 2 by omega]; exact h1
theorem RulesIn.at_ {w : World} {B : Nat} {A : Option Addr} {c : Nat} {R : List Rl} (h : RulesIn w B A c R) {k : Nat} (hk : k < R.length) :
    ∃ b o, A = some ⟨b, o, none⟩ ∧ b < B ∧ w.cell? ⟨b, o + k * 2, none⟩ = some (.int .i64 R[k].left) ∧ w.cell? ⟨b, o + k * 2 + 1, none⟩ = some (.slice R[k].A R[k].right.length R[k].c) := by
  obtain ⟨b, o, e, hb, hc⟩ := h.row (by rw [ruleCells_length]; omega)
  obtain ⟨h0, h1⟩ := ruleCells_at R k hk
  rw [Nat.mul_comm] at h0 h1
  exact ⟨b, o, e, hb, hc _ _ h0, hc _ _ h1⟩

/-- A grammar in memory. -/
structure GV where
  T : List ByteArray
  AT : Option Addr
  cT : Nat
  N : List ByteArray
  AN : Option Addr
  cN : Nat
  ax : Int
  R : List Rl
  AR : Option Addr
  cR : Nat
abbrev GV.cells (g : GV) : Array Value := #[.slice g.AT g.T.length g.cT, .slice g.AN g.N.length g.cN, .int .i64 g.ax, .slice g.AR g.R.length g.cR]
abbrev GV.val (g : GV) : Value := .agg #[.slice g.AT g.T.length g.cT, .slice g.AN g.N.length g.cN, .int .i64 g.ax, .slice g.AR g.R.length g.cR]
structure GV.In (g : GV) (w : World) (B : Nat) : Prop where
  t : Row w B g.AT (strs g.T)
  n : Row w B g.AN (strs g.N)
  r : RulesIn w B g.AR g.cR g.R
  tc : g.T.length ≤ g.cT ∧ g.T.length ≤ 140737488355328
  nc : g.N.length ≤ g.cN ∧ g.N.length ≤ 140737488355328
theorem GV.In.below {g : GV} {w w' : World} {B : Nat} (h : g.In w B) (hb : Below B w w') : g.In w' B := ⟨h.t.below hb, h.n.below hb, h.r.below hb, h.tc, h.nc⟩
theorem GV.In.more {g : GV} {w : World} {B B' : Nat} (h : g.In w B) (hB : B ≤ B') : g.In w B' := ⟨h.t.more hB, h.n.more hB, h.r.more hB, h.tc, h.nc⟩
end Go.Proofs.YtoidecclimhgjaaGreatDoor
