/- The kit's KeptRules, KeptGrammar, where what was lent is as it was. -/
import Derived.Test.YtoidecclimhgjaaGreatDoorKit1
namespace Go.Proofs.YtoidecclimhgjaaGreatDoor
open Go.RowKit

/-- Rules that were lent: marks stand behind the lists. -/
structure LentR (w : World) (B : Nat) (A : Option Addr) (c : Nat) (R : List Rl) : Prop where
  row : Row w B A (ruleCells R ++ [.int .i64 (-7171), .slice none 0 0])
  le : R.length + 1 ≤ c
  cap : R.length ≤ 140737488355328
  each : ∀ r ∈ R, Row w B r.A (nums r.right ++ [.int .i64 (-7171)]) ∧ r.right.length + 1 ≤ r.c ∧ r.right.length ≤ 140737488355328
theorem LentR.rules {w : World} {B : Nat} {A : Option Addr} {c : Nat} {R : List Rl} (h : LentR w B A c R) : RulesIn w B A c R :=
  ⟨h.row.left, by have := h.le; omega, h.cap, fun r hr => ⟨(h.each r hr).1.left, by have := (h.each r hr).2.1; omega, (h.each r hr).2.2⟩⟩
theorem LentR.below {w w' : World} {B : Nat} {A : Option Addr} {c : Nat} {R : List Rl} (h : LentR w B A c R) (hb : Below B w w') : LentR w' B A c R :=
  ⟨h.row.below hb, h.le, h.cap, fun r hr => ⟨(h.each r hr).1.below hb, (h.each r hr).2⟩⟩
theorem LentR.more {w : World} {B B' : Nat} {A : Option Addr} {c : Nat} {R : List Rl} (h : LentR w B A c R) (hB : B ≤ B') : LentR w B' A c R :=
  ⟨h.row.more hB, h.le, h.cap, fun r hr => ⟨(h.each r hr).1.more hB, (h.each r hr).2⟩⟩
theorem RulesIn.drewN {w : World} {B : Nat} {A : Option Addr} {c : Nat} {R : List Rl} (h : RulesIn w B A c R) (n : Nat) : RulesIn (w.drewN n) B A c R := ⟨h.row, h.le, h.cap, h.each⟩

set_option maxHeartbeats 2000000 in
set_option maxRecDepth 100000 in
theorem keptRules_same (A1 A2 : Option Addr) (c1 c2 : Nat) (R R' : List Rl) (hRR : R.map Rl.p = R'.map Rl.p) (w : World) (B : Nat) (h1 : LentR w B A1 c1 R) (h2 : RulesIn w B A2 c2 R') :
    Calls Tryz.prog 27 #[.slice A1 R.length c1, .slice A2 R'.length c2] w (Quiet w (.bool true)) := by
  have hlen : R.length = R'.length := by simpa using congrArg List.length hRR
  obtain ⟨b, o, rfl, hb, hm⟩ := h1.row.last (by simp)
  have hm0 := hm 0 _ rfl
  simp only [ruleCells_length, Nat.add_zero] at hm0
  rw [Nat.mul_comm] at hm0
  have hcap := h1.cap
  have hle := h1.le
  have H1 := Lib.hid h1
  have H2 := Lib.hid h2
  have HRR := Lib.hid hRR
  rw [← hlen]
  have Hlen := Lib.hid hlen
  clear hm h1 h2 hRR hlen
  go_enter Tryz.func27, Tryz.ntmps27
  go_wp2_with fail
  go_loopw [5] (fun i wr => ∃ k n : Nat, k ≤ R.length ∧ i = .int .i64 k ∧ wr = w.drewN n) (fun i _ => R.length - (intOf i).toNat)
  case atStart => exact ⟨0, 0, Nat.zero_le _, rfl, rfl⟩
  case round =>
    obtain ⟨k, n, hk, rfl, rfl⟩ := hrel
    by_cases hlt : k < R.length
    · have hlt' : k < R'.length := by rw [← Hlen.out]; exact hlt
      obtain ⟨b1, o1, hA1, hb1, x0, x1⟩ := (H1.out.rules).at_ hlt
      simp only [Option.some.injEq, Addr.mk.injEq, and_true] at hA1
      obtain ⟨rfl, rfl⟩ := hA1
      obtain ⟨b2, o2, rfl, hb2, y0, y1⟩ := H2.out.at_ hlt'
      have he := HRR.out
      have hek : Rl.p R[k] = Rl.p R'[k] := by
        have : (R.map Rl.p)[k]? = (R'.map Rl.p)[k]? := by rw [he]
        simpa [hlt, hlt'] using this
      simp only [Rl.p, Prod.mk.injEq] at hek
      have e1 := H1.out.each _ (List.getElem_mem hlt)
      have e2 := H2.out.each _ (List.getElem_mem hlt')
      rw [← hek.1] at y0
      rw [← hek.2] at y1 e2
      clear he hek
      have hK := fun q => quiet_at2 (k := n) (n := q) (keptInts_same R[k].A R'[k].A R[k].c R'[k].c R[k].right (w.drewN (n + q)) B e1.1 e2.1 e1.2.2 e1.2.1)
      have HK := Lib.hid hK
      clear hK e1 e2
      generalize R[k].left = l0 at *
      generalize R[k].right = r0 at *
      generalize R[k].A = A0 at *
      generalize R'[k].A = A0' at *
      generalize R[k].c = c0 at *
      generalize R'[k].c = c0' at *
      go_wp2_with fail
      go_quiet ((go_at_call 47; exact HK.out _))
      go_wp2_with fail
      go_roundw
      case rel => exact ⟨k + 1, _, by omega, by go_num, rfl⟩
      case measure => simp [intOf]; omega
    · go_wp2_with fail
      go_ret
      exact ⟨rfl, _, rfl⟩

/-- A grammar that was lent. -/
structure GV.Lent (g : GV) (w : World) (B : Nat) : Prop where
  t : Row w B g.AT (strs g.T ++ [.string ⟨#[109, 97, 114, 107]⟩])
  n : Row w B g.AN (strs g.N ++ [.string ⟨#[109, 97, 114, 107]⟩])
  r : LentR w B g.AR g.cR g.R
  tc : g.T.length + 1 ≤ g.cT ∧ g.T.length ≤ 140737488355328
  nc : g.N.length + 1 ≤ g.cN ∧ g.N.length ≤ 140737488355328
theorem GV.Lent.below {g : GV} {w w' : World} {B : Nat} (h : g.Lent w B) (hb : Below B w w') : g.Lent w' B := ⟨h.t.below hb, h.n.below hb, h.r.below hb, h.tc, h.nc⟩
theorem GV.Lent.more {g : GV} {w : World} {B B' : Nat} (h : g.Lent w B) (hB : B ≤ B') : g.Lent w B' := ⟨h.t.more hB, h.n.more hB, h.r.more hB, h.tc, h.nc⟩
theorem GV.Lent.in_ {g : GV} {w : World} {B : Nat} (h : g.Lent w B) : g.In w B := ⟨h.t.left, h.n.left, h.r.rules, ⟨by have := h.tc.1; omega, h.tc.2⟩, ⟨by have := h.nc.1; omega, h.nc.2⟩⟩
/-- The same grammar, elsewhere in memory. -/
structure GV.Same (g g' : GV) : Prop where
  t : g.T = g'.T
  n : g.N = g'.N
  ax : g.ax = g'.ax
  r : g.R.map Rl.p = g'.R.map Rl.p

set_option maxHeartbeats 2000000 in
set_option maxRecDepth 100000 in
theorem keptGrammar_same (g g' : GV) (hs : g.Same g') (w : World) (B : Nat) (h1 : g.Lent w B) (h2 : g'.In w B) (hB : B ≤ w.heap.size) :
    Calls Tryz.prog 9 #[g.val, g'.val] w (RetV w (.bool true)) := by
  obtain ⟨T, AT, cT, N, AN, cN, ax, R, AR, cR⟩ := g
  obtain ⟨T', AT', cT', N', AN', cN', ax', R', AR', cR'⟩ := g'
  obtain ⟨rfl, rfl, rfl, hR⟩ := hs
  simp only at *
  have bw : Below w.heap.size w ((w.alloc (.cells #[.slice AT T.length cT, .slice AN N.length cN, .int .i64 ax, .slice AR R.length cR] 25)).alloc (.cells #[.slice AT' T.length cT', .slice AN' N.length cN', .int .i64 ax, .slice AR' R'.length cR'] 25)) :=
    ((Below.refl _ _).alloc (Nat.le_refl _) _).alloc (by simp) _
  have g1 := (h1.more hB).below bw
  have g2 := (h2.more hB).below bw
  have HT := Lib.hid fun q => keptStrings_same AT AT' cT cT' T (World.drewN ((w.alloc (.cells #[.slice AT T.length cT, .slice AN N.length cN, .int .i64 ax, .slice AR R.length cR] 25)).alloc (.cells #[.slice AT' T.length cT', .slice AN' N.length cN', .int .i64 ax, .slice AR' R'.length cR'] 25)) q) w.heap.size g1.t.drewN g2.t.drewN g1.tc.2 g1.tc.1
  have HN := Lib.hid fun q => keptStrings_same AN AN' cN cN' N (World.drewN ((w.alloc (.cells #[.slice AT T.length cT, .slice AN N.length cN, .int .i64 ax, .slice AR R.length cR] 25)).alloc (.cells #[.slice AT' T.length cT', .slice AN' N.length cN', .int .i64 ax, .slice AR' R'.length cR'] 25)) q) w.heap.size g1.n.drewN g2.n.drewN g1.nc.2 g1.nc.1
  have HR := Lib.hid fun q => keptRules_same AR AR' cR cR' R R' hR (World.drewN ((w.alloc (.cells #[.slice AT T.length cT, .slice AN N.length cN, .int .i64 ax, .slice AR R.length cR] 25)).alloc (.cells #[.slice AT' T.length cT', .slice AN' N.length cN', .int .i64 ax, .slice AR' R'.length cR'] 25)) q) w.heap.size
    (g1.r.below (below_dN (Below.refl _ _) q)) (g2.r.below (below_dN (Below.refl _ _) q))
  clear g1 g2 h1 h2 hR
  go_enter Tryz.func9, Tryz.ntmps9
  go_wp2_with fail
  refine (HT.out 0).mono ?_
  rintro en w1 ⟨rfl, m, rfl⟩
  go_wp2_with fail
  refine (HN.out m).mono ?_
  rintro en w1 ⟨rfl, m', rfl⟩
  go_wp2_with fail
  refine (HR.out _).mono ?_
  rintro en w1 ⟨rfl, m2, rfl⟩
  go_wp2_with fail
  go_ret
  exact ⟨below_dN bw _, rfl⟩
end Go.Proofs.YtoidecclimhgjaaGreatDoor
