/- slices.IndexFunc over rules; deriv.may. -/
import Derived.Test.YtoidecclimhgjaaGreatDoorGram3
namespace Go.Proofs.YtoidecclimhgjaaGreatDoor
open Go.RowKit

/-- A predicate on rules that may lay blocks of its own. -/
def PredR (P : Program) (w : World) (fn : FuncId) (l : List Rl) (p : Rl → Bool) : Prop :=
  ∀ x ∈ l, ∀ W, Below w.heap.size w W → Calls P fn #[.agg #[.int .i64 x.left, .slice x.A x.right.length x.c]] W (RetV W (.bool (p x)))

set_option maxHeartbeats 400000 in
theorem idxF_rule (A : Option Addr) (c : Nat) (l : List Rl) (fn : FuncId) (p : Rl → Bool) (w : World) (B : Nat) (h : RulesIn w B A c l) (hB : B ≤ w.heap.size) (hen : Enters Tryz.prog fn) (hp : PredR Tryz.prog w fn l p) :
    Calls Tryz.prog 74 #[.slice A l.length c, .func (.func fn) #[] #[]] w (RetV w (.int .i64 (idxBy p l))) := by
  have Hp := Lib.hid hp
  have eg : ∀ args w, (callFunc fn args).run Tryz.prog w = .ok (.enter fn args) w := hen
  have hl : l.length ≤ 140737488355328 := h.cap
  clear hp hen
  go_enter Tryz.func74, Tryz.ntmps74
  go_wp2
  go_loopw [8] (fun i wr => ∃ k : Nat, k ≤ l.length ∧ i = .int .i64 k ∧ Below w.heap.size w wr ∧ ∀ x ∈ l.take k, p x = false) (fun i _ => l.length - (intOf i).toNat)
  case atStart => exact ⟨0, Nat.zero_le _, rfl, Below.refl _ _, by simp⟩
  case round =>
    obtain ⟨k, hk, rfl, hb, hi⟩ := hrel
    have Hi := Lib.hid hi
    clear hi
    by_cases hlt : k < l.length
    · obtain ⟨b, o, rfl, hbl, q0, q1⟩ := ((h.more hB).below hb).at_ hlt
      go_wp2_with fail
      refine (Hp.out _ (List.getElem_mem hlt) _ hb).mono ?_
      rintro en w' ⟨hb', rfl⟩
      cases hv : p l[k] with
      | true =>
        have Hv := Lib.hid hv
        clear hv
        go_wp2_with fail
        go_ret
        exact ⟨hb.trans (hb'.mono hb.size), by rw [idxBy_hit hlt Hi.out Hv.out]; rfl⟩
      | false =>
        have Hv := Lib.hid hv
        clear hv
        go_wp2_with fail
        go_roundw
        case rel => exact ⟨k + 1, by omega, by go_num, hb.trans (hb'.mono hb.size), fun x hx => ((take_succ_mem hlt x).1 hx).elim (Hi.out x) (fun e => e ▸ Hv.out)⟩
        case measure => simp [intOf]; omega
    · have Hi2 := Hi.out
      rw [List.take_of_length_le (by omega)] at Hi2
      have Hi3 := Lib.hid Hi2
      clear Hi2
      go_wp2_with fail
      go_ret
      exact ⟨hb, by rw [idxBy_miss Hi3.out]; rfl⟩

set_option maxHeartbeats 400000 in
theorem may_1 (l : Int) (A : Option Addr) (n c : Nat) (w : World) :
    Calls Tryz.prog 75 #[.agg #[.int .i64 l, .slice A n c]] w (RetV w (.bool (decide (n = 0)))) := by
  go_enter Tryz.func75, Tryz.ntmps75
  go_wp2
  go_ret
  exact ⟨(Below.refl _ _).alloc (Nat.le_refl _) _, ret_bool (by rw [Bool.eq_iff_iff]; simp)⟩

/-- What is wrong with a grammar, and with how many steps there are. -/
def mayErr (T N : List ByteArray) (ax : Int) (R : List (Int × List Int)) (steps : Int) : Er :=
  if checkErr T N ax R ≠ .ok then checkErr T N ax R
  else if 0 ≤ idxBy (fun r : Int × List Int => decide (r.2.length = 0)) R then .rule (idxBy (fun r : Int × List Int => decide (r.2.length = 0)) R) 4
  else if 131072 < steps then .kind 12 else .ok
theorem idxBy_map {α β : Type} (f : α → β) (p : β → Bool) (l : List α) : idxBy p (l.map f) = idxBy (fun x => p (f x)) l := by
  simp only [idxBy, List.findIdx?_map, Function.comp_def]

set_option maxHeartbeats 1000000 in
theorem may_any (g : GV) (steps : Int) (e : Nat → Addr) (w : World) (B : Nat) (hE : GE w e) (hg : g.In w B) (hB : B ≤ w.heap.size) :
    Calls Tryz.prog 48 #[g.val, .int .i64 steps] w (RetE w e (mayErr g.T g.N g.ax (g.R.map Rl.p) steps)) := by
  obtain ⟨T, AT, cT, N, AN, cN, ax, R, AR, cR⟩ := g
  have bw : Below w.heap.size w (w.alloc (.cells #[.slice AT T.length cT, .slice AN N.length cN, .int .i64 ax, .slice AR R.length cR] 25)) := (Below.refl _ _).alloc (Nat.le_refl _) _
  have hc := check_any _ e _ w.heap.size (hE.below bw) ((hg.more hB).below bw) bw.size
  have hr := (hg.r.more hB).below bw
  have HR := Lib.hid hr
  simp only [GV.val, GV.err] at *
  have H := Lib.hid hc
  clear hc hg hr
  go_enter Tryz.func48, Tryz.ntmps48
  go_wp2_with fail
  refine H.out.mono ?_
  rintro en w1 ⟨hb1, v, rfl, hv⟩
  have hbw : Below w.heap.size w w1 := bw.trans (hb1.mono bw.size)
  rcases hv.form with ⟨hr, rfl⟩ | ⟨hr, t, x, rfl⟩
  · have Hr := Lib.hid hr
    clear hr hv
    have b3 : w1.cell? ⟨w.heap.size, 3, none⟩ = some (.slice AR R.length cR) := (hb1.cell (by simp)).trans (by go_simp)
    have hi := idxF_rule AR cR R 75 (fun r => decide (r.right.length = 0)) w1 _ (HR.out.below (hb1.mono (by simp))) hbw.size (enters_of Tryz.func75 (by kernel_rfl) rfl) (fun x _ W _ => may_1 _ _ _ _ _)
    have Hi := Lib.hid hi
    clear hi H
    go_wp2_with fail
    refine Hi.out.mono ?_
    rintro en w2 ⟨hb2, rfl⟩
    have hbw2 : Below w.heap.size w w2 := hbw.trans (hb2.mono hbw.size)
    have hE1 := hE.below hbw2
    have hz := hE1.size
    have z0 : 0 < w2.heap.size := by omega
    have s4 : gno 4 < w2.heap.size := Nat.lt_of_lt_of_le (gno_lt 4) hE1.size
    have s12 : gno 12 < w2.heap.size := Nat.lt_of_lt_of_le (gno_lt 12) hE1.size
    have c4 := hE1.cell 4 (by omega) (by omega)
    have c12 := hE1.cell 12 (by omega) (by omega)
    simp only [gno] at s4 s12 c4 c12
    have hm : idxBy (fun r : Int × List Int => decide (r.2.length = 0)) (R.map Rl.p) = idxBy (fun r : Rl => decide (r.right.length = 0)) R := idxBy_map _ _ _
    have HF : Hid (mayErr T N ax (R.map Rl.p) steps = if 0 ≤ idxBy (fun r : Rl => decide (r.right.length = 0)) R then .rule (idxBy (fun r : Rl => decide (r.right.length = 0)) R) 4 else if 131072 < steps then .kind 12 else .ok) := by
      show _ = _
      rw [mayErr, if_neg (by simpa using Hr.out), hm]
    clear hm HR Hi b3
    generalize idxBy (fun r : Rl => decide (r.right.length = 0)) R = q at *
    by_cases hq : 0 ≤ q
    · go_wp2_with fail
      go_ret
      exact ⟨hbw2.alloc hbw2.size _, _, rfl, by rw [HF.out, if_pos hq]; exact ⟨by omega, by omega, w2.heap.size, rfl, by simp, by go_simp, by go_simp⟩⟩
    · by_cases hs : 131072 < steps
      · go_wp2_with fail
        go_ret
        exact ⟨hbw2, _, rfl, by rw [HF.out, if_neg (by omega), if_pos hs]; exact ⟨by omega, by omega, rfl⟩⟩
      · go_wp2_with fail
        go_ret
        exact ⟨hbw2, _, rfl, by rw [HF.out, if_neg (by omega), if_neg (by omega)]; rfl⟩
  · clear H
    go_wp2_with fail
    go_ret
    exact ⟨hbw, _, rfl, by rw [mayErr, if_pos hr]; exact hv⟩
end Go.Proofs.YtoidecclimhgjaaGreatDoor
