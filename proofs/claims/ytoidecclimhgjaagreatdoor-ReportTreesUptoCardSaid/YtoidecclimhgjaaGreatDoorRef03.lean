/- dovetailref03.named, Check; dovetailref18.May. -/
import Derived.Test.YtoidecclimhgjaaGreatDoorKind2
import Derived.Test.YtoidecclimhgjaaGreatDoorDeriv1
namespace Go.Proofs.YtoidecclimhgjaaGreatDoor
open Go.RowKit

set_option maxHeartbeats 1000000 in
theorem named_any (A : Option Addr) (c : Nat) (l : List ByteArray) (w : World) (B : Nat) (h : Row w B A (strs l)) (hl : l.length ≤ 140737488355328) :
    Calls Tryz.prog 64 #[.slice A l.length c] w (Quiet w (.bool (decide (namesOk l)))) := by
  go_enter Tryz.func64, Tryz.ntmps64
  go_wp2
  go_loopw [3] (fun i wr => ∃ k n : Nat, k ≤ l.length ∧ i = .int .i64 k ∧ wr = w.drewN n ∧ ∀ i (h : i < l.length), i < k → ¬ nameBad l i l[i]) (fun i _ => l.length - (intOf i).toNat)
  case atStart => exact ⟨0, 0, Nat.zero_le _, rfl, rfl, fun i _ h => absurd h (by omega)⟩
  case round =>
    obtain ⟨k, n, hk, rfl, rfl, hi⟩ := hrel
    have Hi := Lib.hid hi
    clear hi
    by_cases hlt : k < l.length
    · obtain ⟨b, o, rfl, hb, hc⟩ := h.at_ (k := k) (by simpa [strs] using hlt)
      have hck : w.cell? ⟨b, o + k, none⟩ = some (.string l[k]) := by rw [hc k (by simpa [strs] using hlt)]; simp [strs]
      have Hc : Hid (∀ j (hj : j < l.length), w.cell? ⟨b, o + j, none⟩ = some (.string l[j])) := Lib.hid fun j hj => by rw [hc j (by simpa [strs] using hj)]; simp [strs]
      clear hc
      by_cases h0 : l[k].size = 0
      · have Hb : Hid (nameBad l k l[k]) := Lib.hid (Or.inl h0)
        go_wp2_with fail
        go_ret
        exact ⟨ret_bool (decide_eq_false fun h => h k hlt Hb.out).symm, _, rfl⟩
      by_cases h1 : 32 < l[k].size
      · have Hb : Hid (nameBad l k l[k]) := Lib.hid (Or.inr (Or.inl h1))
        go_wp2_with fail
        go_ret
        exact ⟨ret_bool (decide_eq_false fun h => h k hlt Hb.out).symm, _, rfl⟩
      · have e0 : ((l[k].size : Int) == 0) = false := by simp [h0]
        go_wp2_with fail
        go_loopw [4] (fun j wr => ∃ m n : Nat, m ≤ k ∧ j = .int .i64 m ∧ wr = w.drewN n ∧ l[k] ∉ l.take m) (fun j _ => k - (intOf j).toNat)
        case atStart => exact ⟨0, _, Nat.zero_le _, rfl, rfl, by simp⟩
        case round =>
          obtain ⟨m, n2, hm, rfl, rfl, hx⟩ := hrel
          have Hx := Lib.hid hx
          clear hx
          by_cases hmk : m < k
          · have hcm := Hc.out m (by omega)
            have hck2 := Hc.out k hlt
            obtain ⟨s, Hs⟩ : ∃ s, Hid (l[k] = s) := ⟨_, Lib.hid rfl⟩
            obtain ⟨t, Ht⟩ : ∃ t, Hid (l[m] = t) := ⟨_, Lib.hid rfl⟩
            rw [Hs.out] at hck2 hck e0 h0 h1
            rw [Ht.out] at hcm
            go_wp2_with fail
            go_quiet (fail)
            go_wp2_with fail
            · have hv : (t.toList == s.toList) = true := by assumption
              have hts := bytes_yes hv
              go_ret
              exact ⟨ret_bool (decide_eq_false fun h => h k hlt (Or.inr (Or.inr (by rw [Hs.out, ← hts, ← Ht.out]; exact List.mem_take_iff_getElem.2 ⟨m, by omega, rfl⟩)))).symm, n2 + nq, by simp⟩
            · have hv' : (t.toList == s.toList) = false := by assumption
              have Hts := Lib.hid (bytes_no hv')
              go_roundw
              case rel => exact ⟨m + 1, n2 + nq, by omega, by go_num, by simp, by rw [take_succ_mem (by omega)]; rintro (h | h); exact Hx.out h; exact Hts.out (by rw [← Ht.out, ← h, Hs.out])⟩
              case measure => simp [intOf]; omega
          · obtain rfl : m = k := by omega
            go_wp2_with fail
            go_roundw
            case rel => exact ⟨m + 1, _, by omega, by go_num, rfl, fun i hi hik => by
              by_cases e : i = m
              · subst e; unfold nameBad; simp only [not_or]; exact ⟨h0, by omega, Hx.out⟩
              · exact Hi.out i hi (by omega)⟩
            case measure => simp [intOf]; omega
    · go_wp2
      go_ret
      exact ⟨ret_bool (decide_eq_true fun i h => Hi.out i h (by omega)).symm, _, rfl⟩

/-- What the reference tells of an error: its number, its rule. -/
abbrev Er.two (r : Er) : Value := .tuple #[.int .i64 r.kd, .int .i64 r.ru]

theorem rulesErr_at {t n k : Nat} {R : List (Int × List Int)} (h : k < R.length) : rulesErr t n k (R.drop k) = match ruleErr t n R[k].1 R[k].2 with | .kind e => .rule k e | _ => rulesErr t n (k + 1) (R.drop (k + 1)) := by
  rw [List.drop_eq_getElem_cons h, rulesErr]
  rcases ruleErr_cases t n R[k].1 R[k].2 with h0 | h0 | h0 <;> simp only [h0]

set_option maxHeartbeats 4000000 in
set_option maxRecDepth 100000 in
theorem check_ref (g : GV) (w : World) (B : Nat) (hg : g.In w B) (hB : B ≤ w.heap.size) :
    Calls Tryz.prog 41 #[g.val] w (RetV w g.err.two) := by
  obtain ⟨T, AT, cT, N, AN, cN, ax, R, AR, cR⟩ := g
  simp only [GV.val, GV.err] at *
  have hnc : N.length ≤ 140737488355328 := hg.nc.2
  have htc : T.length ≤ 140737488355328 := hg.tc.2
  have hrc : R.length ≤ 140737488355328 := hg.r.cap
  have bw : Below w.heap.size w (w.alloc (.cells #[.slice AT T.length cT, .slice AN N.length cN, .int .i64 ax, .slice AR R.length cR] 25)) := (Below.refl _ _).alloc (Nat.le_refl _) _
  have hT := fun n => named_any AT cT T (World.drewN (w.alloc (.cells #[.slice AT T.length cT, .slice AN N.length cN, .int .i64 ax, .slice AR R.length cR] 25)) n) w.heap.size (((hg.t.more hB).below bw).drewN) htc
  have hN := fun n => named_any AN cN N (World.drewN (w.alloc (.cells #[.slice AT T.length cT, .slice AN N.length cN, .int .i64 ax, .slice AR R.length cR] 25)) n) w.heap.size (((hg.n.more hB).below bw).drewN) hnc
  have HT := Lib.hid hT
  have HN := Lib.hid hN
  have HG := Lib.hid (hg.more hB)
  clear hT hN hg
  by_cases hbo : 60 < T.length ∨ 60 < T.length + N.length ∨ 120 < R.length
  · have hfin : checkErr T N ax (R.map Rl.p) = .kind 3 := by rw [checkErr, if_pos (by simpa using hbo)]
    rw [hfin]; clear hfin HT HN
    by_cases h60 : 60 < T.length
    · clear hbo
      go_enter Tryz.func41, Tryz.ntmps41
      go_wp2_with fail
      go_ret2
      exact ⟨bw, rfl⟩
    by_cases h61 : 60 < N.length
    · clear hbo
      go_enter Tryz.func41, Tryz.ntmps41
      go_wp2_with fail
      go_ret2
      exact ⟨bw, rfl⟩
    by_cases h62 : 60 < T.length + N.length
    · clear hbo
      go_enter Tryz.func41, Tryz.ntmps41
      go_wp2_with fail
      go_ret2
      exact ⟨bw, rfl⟩
    · have h120 : 120 < R.length := by omega
      clear hbo
      go_enter Tryz.func41, Tryz.ntmps41
      go_wp2_with fail
      go_ret2
      exact ⟨bw, rfl⟩
  · have h60 : T.length ≤ 60 := by omega
    have h61 : T.length + N.length ≤ 60 := by omega
    have h62 : N.length ≤ 60 := by omega
    have h120 : R.length ≤ 120 := by omega
    have Hbo := Lib.hid hbo
    clear hbo
    by_cases hT : namesOk T
    · by_cases hN : namesOk N
      · by_cases hax : 0 ≤ ax ∧ ax < N.length
        · have hfin : checkErr T N ax (R.map Rl.p) = rulesErr T.length N.length 0 (R.map Rl.p) := by rw [checkErr, if_neg (by simpa using Hbo.out), if_neg (by simp [hT, hN]), if_neg (by omega)]
          rw [hfin]; clear hfin
          obtain ⟨hax0, hax1⟩ := hax
          have DT : decide (namesOk T) = true := decide_eq_true hT
          have DN : decide (namesOk N) = true := decide_eq_true hN
          have hn0 : ((N.length : Int) == 0) = false := by rw [beq_eq_false_iff_ne]; omega
          clear hT hN
          go_enter Tryz.func41, Tryz.ntmps41
          go_wp2_with fail
          refine (HT.out 0).mono ?_
          rintro en w' ⟨rfl, m, rfl⟩
          go_wp2_with fail
          refine (HN.out m).mono ?_
          rintro en w' ⟨rfl, m', rfl⟩
          go_wp2_with fail
          go_loopw [6] (fun i wr => ∃ k : Nat, k ≤ R.length ∧ i = .int .i64 k ∧ Below (w.heap.size + 1) (w.alloc (.cells #[.slice AT T.length cT, .slice AN N.length cN, .int .i64 ax, .slice AR R.length cR] 25)) wr ∧ rulesErr T.length N.length 0 (R.map Rl.p) = rulesErr T.length N.length k ((R.map Rl.p).drop k)) (fun i _ => R.length - (intOf i).toNat)
          case atStart => exact ⟨0, Nat.zero_le _, rfl, below_dN (Below.refl _ _) _, rfl⟩
          case round =>
            obtain ⟨k, hk, rfl, hb, hi⟩ := hrel
            have Hi := Lib.hid hi
            clear hi
            have hbw : Below w.heap.size w wr := bw.trans (hb.mono (by omega))
            have b0 : wr.cell? ⟨w.heap.size, 0, none⟩ = some (.slice AT T.length cT) := (hb.cell (by simp)).trans (by go_simp)
            have b1 : wr.cell? ⟨w.heap.size, 1, none⟩ = some (.slice AN N.length cN) := (hb.cell (by simp)).trans (by go_simp)
            have b2 : wr.cell? ⟨w.heap.size, 2, none⟩ = some (.int .i64 ax) := (hb.cell (by simp)).trans (by go_simp)
            have b3 : wr.cell? ⟨w.heap.size, 3, none⟩ = some (.slice AR R.length cR) := (hb.cell (by simp)).trans (by go_simp)
            have hzr : w.heap.size < wr.heap.size := by have := hb.size; simp at this; omega
            by_cases hlt : k < R.length
            · obtain ⟨bR, oR, rfl, hbl, q0, q1⟩ := (HG.out.below hbw).r.at_ hlt
              have hadlt : bR < wr.heap.size := by omega
              have he := (HG.out.below hbw).r.each _ (List.getElem_mem hlt)
              have Hat := Lib.hid (rulesErr_at (t := T.length) (n := N.length) (k := k) (R := R.map Rl.p) (by simpa using hlt))
              simp only [List.getElem_map, Rl.p] at Hat
              obtain ⟨el, hel⟩ : ∃ el, R[k] = el := ⟨_, rfl⟩
              rw [hel] at q0 q1 he Hat
              obtain ⟨left, right, A, c⟩ := el
              simp only at q0 q1 he Hat
              have hrl := he.2.2
              have Hrow := Lib.hid he.1
              clear hel he
              by_cases h32 : 32 < right.length
              · have Hf : Hid (rulesErr T.length N.length 0 (R.map Rl.p) = .rule k 3) := Lib.hid (by rw [Hi.out, Hat.out]; simp [ruleErr, h32])
                go_wp2_with fail
                go_ret2
                exact ⟨hbw.alloc hbw.size _, by rw [Hf.out]; rfl⟩
              by_cases hl0 : left < 0
              · have Hf : Hid (rulesErr T.length N.length 0 (R.map Rl.p) = .rule k 1) := Lib.hid (by rw [Hi.out, Hat.out]; simp [ruleErr, h32, hl0])
                go_wp2_with fail
                go_ret2
                exact ⟨hbw.alloc hbw.size _, by rw [Hf.out]; rfl⟩
              by_cases hl1 : (N.length : Int) ≤ left
              · have Hf : Hid (rulesErr T.length N.length 0 (R.map Rl.p) = .rule k 1) := Lib.hid (by rw [Hi.out, Hat.out]; simp [ruleErr, h32, hl1])
                go_wp2_with fail
                go_ret2
                exact ⟨hbw.alloc hbw.size _, by rw [Hf.out]; rfl⟩
              · have Hbad : Hid (∀ x ∈ right, symBad T.length N.length x = true → rulesErr T.length N.length 0 (R.map Rl.p) = .rule k 1) := Lib.hid fun x hx hbx => by
                  have ha : right.any (symBad T.length N.length) = true := List.any_eq_true.2 ⟨x, hx, hbx⟩
                  rw [Hi.out, Hat.out]; simp only [ruleErr, h32, if_false, ha, or_true, if_true]
                have Hgood : Hid ((∀ x ∈ right, symBad T.length N.length x = false) → rulesErr T.length N.length 0 (R.map Rl.p) = rulesErr T.length N.length (k + 1) ((R.map Rl.p).drop (k + 1))) := Lib.hid fun hx => by
                  have ha : right.any (symBad T.length N.length) = false := by rw [List.any_eq_false]; intro x h; simp [hx x h]
                  rw [Hi.out, Hat.out]; simp only [ruleErr, h32, if_false, ha, hl0, hl1, or_false, Bool.false_eq_true]
                go_wp2_with fail
                go_loop [8] (fun j => ∃ m : Nat, m ≤ right.length ∧ j = .int .i64 m ∧ ∀ x ∈ right.take m, symBad T.length N.length x = false) (fun j => right.length - (intOf j).toNat)
                case atStart => exact ⟨0, Nat.zero_le _, rfl, by simp⟩
                case round =>
                  obtain ⟨m2, hm2, rfl, hx⟩ := hrel
                  have Hx := Lib.hid hx
                  clear hx
                  by_cases hmk : m2 < right.length
                  · obtain ⟨b4, o4, rfl, hb4, hc4⟩ := Hrow.out.at_ (k := m2) (by simpa [nums] using hmk)
                    have hcx : wr.cell? ⟨b4, o4 + m2, none⟩ = some (.int .i64 right[m2]) := by rw [hc4 _ (by simpa [nums] using hmk)]; simp [nums]
                    have hl4 : b4 < wr.heap.size := by omega
                    obtain ⟨x, Hxx⟩ : ∃ x, Hid (right[m2] = x) := ⟨_, Lib.hid rfl⟩
                    rw [Hxx.out] at hcx
                    clear hc4
                    by_cases hx1 : (T.length : Int) ≤ x
                    · have Hf : Hid (rulesErr T.length N.length 0 (R.map Rl.p) = .rule k 1) := Lib.hid (Hbad.out x (by rw [← Hxx.out]; exact List.getElem_mem hmk) (by simp [symBad, hx1]))
                      go_wp2_with fail
                      go_ret2
                      exact ⟨hbw.alloc hbw.size _, by rw [Hf.out]; rfl⟩
                    by_cases hx2 : x < -(N.length : Int)
                    · have Hf : Hid (rulesErr T.length N.length 0 (R.map Rl.p) = .rule k 1) := Lib.hid (Hbad.out x (by rw [← Hxx.out]; exact List.getElem_mem hmk) (by simp [symBad, hx2]))
                      go_wp2_with fail
                      go_ret2
                      exact ⟨hbw.alloc hbw.size _, by rw [Hf.out]; rfl⟩
                    · go_wp2_with fail
                      go_round
                      case rel => exact ⟨m2 + 1, by omega, by go_num, fun y hy => ((take_succ_mem hmk y).1 hy).elim (Hx.out y) (fun e => by rw [e, Hxx.out]; simp [symBad, hx1, hx2])⟩
                      case measure => simp [intOf]; omega
                  · have Hf := Lib.hid (Hgood.out (by have := Hx.out; rwa [List.take_of_length_le (by omega)] at this))
                    go_wp2_with fail
                    go_roundw
                    case rel => exact ⟨k + 1, by omega, by go_num, hb.alloc hzr _, Hf.out⟩
                    case measure => simp [intOf]; omega
            · have Hf : Hid (rulesErr T.length N.length 0 (R.map Rl.p) = .ok) := Lib.hid (by rw [Hi.out, List.drop_of_length_le (by simp; omega)]; rfl)
              go_wp2_with fail
              go_ret2
              exact ⟨hbw, by rw [Hf.out]; rfl⟩
        · have hfin : checkErr T N ax (R.map Rl.p) = .kind 1 := by rw [checkErr, if_neg (by simpa using Hbo.out), if_neg (by simp [hT, hN]), if_pos (by omega)]
          rw [hfin]; clear hfin
          have DT : decide (namesOk T) = true := decide_eq_true hT
          have DN : decide (namesOk N) = true := decide_eq_true hN
          clear hT hN
          go_enter Tryz.func41, Tryz.ntmps41
          go_wp2_with fail
          refine (HT.out 0).mono ?_
          rintro en w' ⟨rfl, m, rfl⟩
          go_wp2_with fail
          refine (HN.out m).mono ?_
          rintro en w' ⟨rfl, m', rfl⟩
          by_cases hn0 : N.length = 0
          · have hn : ((N.length : Int) == 0) = true := by simp [hn0]
            clear hn0 hax
            go_wp2_with fail
            go_ret2
            exact ⟨below_dN bw _, rfl⟩
          have hn : ((N.length : Int) == 0) = false := by rw [beq_eq_false_iff_ne]; omega
          clear hn0
          by_cases h0 : ax < 0
          · clear hax
            go_wp2_with fail
            go_ret2
            exact ⟨below_dN bw _, rfl⟩
          · have h1 : (N.length : Int) ≤ ax := by omega
            clear hax
            go_wp2_with fail
            go_ret2
            exact ⟨below_dN bw _, rfl⟩
      · have hfin : checkErr T N ax (R.map Rl.p) = .kind 10 := by rw [checkErr, if_neg (by simpa using Hbo.out), if_pos (by simp [hN])]
        rw [hfin]; clear hfin
        have DT : decide (namesOk T) = true := decide_eq_true hT
        have DN : decide (namesOk N) = false := decide_eq_false hN
        clear hT hN
        go_enter Tryz.func41, Tryz.ntmps41
        go_wp2_with fail
        refine (HT.out 0).mono ?_
        rintro en w' ⟨rfl, m, rfl⟩
        go_wp2_with fail
        refine (HN.out m).mono ?_
        rintro en w' ⟨rfl, m', rfl⟩
        go_wp2_with fail
        go_ret2
        exact ⟨below_dN bw _, rfl⟩
    · have hfin : checkErr T N ax (R.map Rl.p) = .kind 10 := by rw [checkErr, if_neg (by simpa using Hbo.out), if_pos (by simp [hT])]
      rw [hfin]; clear hfin
      have DT : decide (namesOk T) = false := decide_eq_false hT
      clear hT
      go_enter Tryz.func41, Tryz.ntmps41
      go_wp2_with fail
      refine (HT.out 0).mono ?_
      rintro en w' ⟨rfl, m, rfl⟩
      go_wp2_with fail
      go_ret2
      exact ⟨below_dN bw _, rfl⟩
end Go.Proofs.YtoidecclimhgjaaGreatDoor
