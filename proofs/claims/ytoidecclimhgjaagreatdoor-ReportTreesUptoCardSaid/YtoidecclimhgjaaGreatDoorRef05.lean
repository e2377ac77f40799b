/- dovetailref05.Symbol. -/
import Derived.Test.YtoidecclimhgjaaGreatDoorRef02q
import Derived.Test.YtoidecclimhgjaaGreatDoorText5
namespace Go.Proofs.YtoidecclimhgjaaGreatDoor
open Go.RowKit

set_option maxHeartbeats 4000000 in
set_option maxRecDepth 100000 in
theorem rsymbol_any (g : GV) (s : Int) (hs : -9223372036854775808 ≤ s ∧ s < 9223372036854775808) (w : World) (B : Nat) (hg : g.In w B) (hB : B ≤ w.heap.size) (hn : ∀ n ∈ g.T ++ g.N, n.size ≤ 1048576) :
    Calls Tryz.prog 42 #[g.val, .int .i64 s] w (RetV w (.string (symF g.T g.N s))) := by
  obtain ⟨T, AT, cT, N, AN, cN, ax, R, AR, cR⟩ := g
  have bw : Below w.heap.size w (w.alloc (.cells #[.slice AT T.length cT, .slice AN N.length cN, .int .i64 ax, .slice AR R.length cR] 25)) := (Below.refl _ _).alloc (Nat.le_refl _) _
  have ht := ((hg.more hB).below bw).t
  have hnn := ((hg.more hB).below bw).n
  have htc := hg.tc.2
  have hnc := hg.nc.2
  simp only [GV.val] at *
  have HFr := Lib.hid fun (n : ByteArray) (h : n.size ≤ 1048576) w => rfree_any n (by omega) w
  have HQ := Lib.hid fun (n : ByteArray) (h : n.size ≤ 1048576) w => rquote_any n (by omega) w
  obtain ⟨W1, hW1⟩ : ∃ W1, W1 = w.alloc (.cells #[.slice AT T.length cT, .slice AN N.length cN, .int .i64 ax, .slice AR R.length cR] 25) := ⟨_, rfl⟩
  have hk0 : Blk W1 w.heap.size 25 #[.slice AT T.length cT, .slice AN N.length cN, .int .i64 ax, .slice AR R.length cR] := by rw [hW1]; exact Blk.new _ _ _
  rw [← hW1] at bw ht hnn
  replace hW1 := hW1.symm
  have g0 := hk0.cell 0; have g1 := hk0.cell 1
  have l0 := hk0.lt
  simp only [List.getElem?_toArray, List.getElem?_cons_zero, List.getElem?_cons_succ] at g0 g1
  have Hn := Lib.hid hn
  have HT := Lib.hid ht
  have HN := Lib.hid hnn
  clear hg hn ht hnn hk0
  by_cases h0 : s = T.length
  · have HS : Hid (symF T N s = ⟨#[36]⟩) := Lib.hid (by rw [symF, if_pos h0])
    have e0 : (s == (T.length : Int)) = true := by simp [h0]
    clear h0
    go_enter Tryz.func42, Tryz.ntmps42
    go_wp2_with fail
    go_ret
    exact ⟨bw, by rw [HS.out]; rfl⟩
  have e0 : (s == (T.length : Int)) = false := by simp [h0]
  by_cases hT : 0 ≤ s ∧ s < T.length
  · obtain ⟨k, rfl⟩ : ∃ k : Nat, s = k := ⟨s.toNat, by omega⟩
    have hkT : k < T.length := by omega
    obtain ⟨b, o, rfl, hb, hc⟩ := HT.out.at_ (k := k) (by simpa [strs] using hkT)
    have hck : W1.cell? ⟨b, o + k, none⟩ = some (.string T[k]) := by rw [hc k (by simpa [strs] using hkT)]; simp [strs]
    have hno : nameOf T N k = some T[k] := by rw [nameOf, if_neg (by omega)]; simp [hkT]
    have HS : Hid (symF T N k = if T[k] ∈ N ∨ ¬ freeName T[k] then quoteB T[k] else T[k]) := Lib.hid (by rw [symF, if_neg h0, hno]; simp only; rw [if_neg (by omega)])
    have hsz := Hn.out T[k] (List.mem_append_left _ (List.getElem_mem hkT))
    obtain ⟨nm, hnm⟩ : ∃ nm, T[k] = nm := ⟨_, rfl⟩
    rw [hnm] at hck HS hsz
    have H1 := Lib.hid fun w => HFr.out nm hsz w
    have H2 := Lib.hid fun w => HQ.out nm hsz w
    clear hc h0 hno hnm
    go_enter Tryz.func42, Tryz.ntmps42
    go_wp2_with fail
    clear hW1
    refine (H1.out _).mono ?_
    rintro en w2 ⟨rfl, q, rfl⟩
    go_wp2_with fail
    go_loop [6, 7] (fun v i => ∃ j : Nat, j ≤ N.length ∧ i = .int .i64 j ∧ v = .bool (decide (freeName nm ∧ nm ∉ N.take j))) (fun _ i => N.length - (intOf i).toNat)
    case atStart => exact ⟨0, Nat.zero_le _, rfl, by simp⟩
    case round =>
      obtain ⟨j, hj, rfl, rfl⟩ := hrel
      by_cases hlt : j < N.length
      · obtain ⟨b2, o2, rfl, hb2, hc2⟩ := HN.out.at_ (k := j) (by simpa [strs] using hlt)
        have hcj : W1.cell? ⟨b2, o2 + j, none⟩ = some (.string N[j]) := by rw [hc2 j (by simpa [strs] using hlt)]; simp [strs]
        obtain ⟨x, Hx⟩ : ∃ x, Hid (N[j] = x) := ⟨_, Lib.hid rfl⟩
        rw [Hx.out] at hcj
        obtain ⟨pv, Hpv⟩ : ∃ pv : Bool, Hid (decide (freeName nm ∧ nm ∉ N.take j) = pv) := ⟨_, Lib.hid rfl⟩
        rw [Hpv.out]
        clear hc2
        go_wp2_with fail
        · have hv : (x.toList == nm.toList) = true := by assumption
          have Hv := Lib.hid (bytes_yes hv)
          go_round
          case rel => exact ⟨j + 1, by omega, by go_num, by rw [decide_eq_false]; rintro ⟨_, h⟩; exact h ((take_succ_mem hlt nm).2 (Or.inr (by rw [Hx.out, Hv.out])))⟩
          case measure => simp [intOf]; omega
        · have hv : (x.toList == nm.toList) = false := by assumption
          have Hv := Lib.hid (bytes_no hv)
          go_round
          case rel => exact ⟨j + 1, by omega, by go_num, by rw [← Hpv.out]; exact congrArg _ (dec_eq (by rw [take_succ_mem hlt]; exact ⟨fun h => ⟨h.1, fun h' => h'.elim h.2 (fun e => Hv.out (by rw [← Hx.out, ← e]))⟩, fun h => ⟨h.1, fun h' => h.2 (Or.inl h')⟩⟩))⟩
          case measure => simp [intOf]; omega
      · rw [List.take_of_length_le (by omega)]
        by_cases hp : freeName nm ∧ nm ∉ N
        · have D : decide (freeName nm ∧ nm ∉ N) = true := decide_eq_true hp
          rw [D]
          have Hs2 : Hid (symF T N k = nm) := Lib.hid (by rw [HS.out, if_neg]; rintro (h | h); exact hp.2 h; exact h hp.1)
          clear D hp
          go_wp2_with fail
          go_ret
          exact ⟨below_dN bw _, by rw [Hs2.out]; rfl⟩
        · have D : decide (freeName nm ∧ nm ∉ N) = false := decide_eq_false hp
          rw [D]
          have Hs2 : Hid (symF T N k = quoteB nm) := Lib.hid (by
            rw [HS.out, if_pos]
            by_cases hf : freeName nm
            · left; exact Decidable.not_not.1 fun h => hp ⟨hf, h⟩
            · exact Or.inr hf)
          clear D hp
          go_wp2_with fail
          refine (H2.out _).mono ?_
          rintro en w3 ⟨hb3, rfl⟩
          go_wp2_with fail
          go_ret
          exact ⟨(below_dN bw q).trans (hb3.mono bw.size), by rw [Hs2.out]; rfl⟩
  · have hT2 : s < 0 ∨ (0 ≤ s ∧ ¬ s < T.length) := by omega
    have Hno : Hid (∀ n, nameOf T N s = some n → ∃ j : Nat, ∃ h : j < N.length, s = -1 - (j : Int) ∧ N[j] = n) := Lib.hid fun n h => by
      unfold nameOf at h
      split at h
      · rename_i hs0
        obtain ⟨h1, h2⟩ := List.getElem?_eq_some_iff.1 h
        exact ⟨_, h1, by omega, h2⟩
      · have := (List.getElem?_eq_some_iff.1 h).1
        omega
    have Hat : Hid (∀ j : Nat, ∀ h : j < N.length, s = -1 - (j : Int) → symF T N s = if freeName N[j] then N[j] else ⟨#[60]⟩ ++ quoteB N[j] ++ ⟨#[62]⟩) := Lib.hid fun j h hj => by
      have hno : nameOf T N s = some N[j] := by
        rw [nameOf, if_pos (by omega), show (-1 - s).toNat = j by omega]; simp [h]
      rw [symF, if_neg h0, hno]
      simp only
      rw [if_pos (by omega)]
    have Hnone : Hid ((∀ j : Nat, j < N.length → s ≠ -1 - (j : Int)) → symF T N s = ⟨#[63]⟩) := Lib.hid fun h => by
      rw [symF, if_neg h0]
      cases hc : nameOf T N s with
      | none => rfl
      | some n => obtain ⟨j, h1, h2, _⟩ := Hno.out n hc; exact absurd h2 (h j h1)
    clear hT h0
    rcases hT2 with hs0 | ⟨hs0, hs1⟩
    all_goals
      go_enter Tryz.func42, Tryz.ntmps42
      go_wp2_with fail
      clear hW1
      go_loop [8] (fun i => ∃ j : Nat, j ≤ N.length ∧ i = .int .i64 j ∧ ∀ m : Nat, m < j → s ≠ -1 - (m : Int)) (fun i => N.length - (intOf i).toNat)
      case atStart => exact ⟨0, Nat.zero_le _, rfl, fun m h => absurd h (by omega)⟩
      case round =>
        obtain ⟨j, hj, rfl, hi⟩ := hrel
        have Hi := Lib.hid hi
        clear hi
        by_cases hlt : j < N.length
        · by_cases hsj : s = -1 - (j : Int)
          · obtain ⟨b2, o2, rfl, hb2, hc2⟩ := HN.out.at_ (k := j) (by simpa [strs] using hlt)
            have hcj : W1.cell? ⟨b2, o2 + j, none⟩ = some (.string N[j]) := by rw [hc2 j (by simpa [strs] using hlt)]; simp [strs]
            have Hs3 := Lib.hid (Hat.out j hlt hsj)
            have hsz := Hn.out N[j] (List.mem_append_right _ (List.getElem_mem hlt))
            obtain ⟨x, Hx⟩ : ∃ x, Hid (N[j] = x) := ⟨_, Lib.hid rfl⟩
            rw [Hx.out] at hcj Hs3 hsz
            have H1 := Lib.hid fun w => HFr.out x hsz w
            have H2 := Lib.hid fun w => HQ.out x hsz w
            have es : (s == -1 - (j : Int)) = true := by rw [beq_iff_eq]; exact hsj
            have hql := quoteB_le x
            clear hc2 hsj
            by_cases hf : freeName x
            · have D : decide (freeName x) = true := decide_eq_true hf
              have Hs4 : Hid (symF T N s = x) := Lib.hid (by rw [Hs3.out, if_pos hf])
              rw [D] at H1
              clear D hf
              go_wp2_with fail
              refine (H1.out _).mono ?_
              rintro en w3 ⟨rfl, q, rfl⟩
              go_wp2_with fail
              go_ret
              exact ⟨below_dN bw _, by rw [Hs4.out]; rfl⟩
            · have D : decide (freeName x) = false := decide_eq_false hf
              have Hs4 : Hid (symF T N s = ⟨#[60]⟩ ++ quoteB x ++ ⟨#[62]⟩) := Lib.hid (by rw [Hs3.out, if_neg hf])
              rw [D] at H1
              clear D hf
              go_wp2_with fail
              refine (H1.out _).mono ?_
              rintro en w3 ⟨rfl, q, rfl⟩
              go_wp2_with fail
              refine (H2.out _).mono ?_
              rintro en w4 ⟨hb4, rfl⟩
              go_wp2_with fail
              go_ret
              exact ⟨(below_dN bw q).trans (hb4.mono bw.size), by rw [Hs4.out]; rfl⟩
          · have es : (s == -1 - (j : Int)) = false := by rw [beq_eq_false_iff_ne]; exact hsj
            have Hsj := Lib.hid hsj
            clear hsj
            go_wp2_with fail
            go_round
            case rel => exact ⟨j + 1, by omega, by go_num, fun m hm => by
              by_cases e : m = j
              · subst e; exact Hsj.out
              · exact Hi.out m (by omega)⟩
            case measure => simp [intOf]; omega
        · have Hs3 := Lib.hid (Hnone.out fun m hm => Hi.out m (by omega))
          go_wp2_with fail
          go_ret
          exact ⟨bw, by rw [Hs3.out]; rfl⟩
end Go.Proofs.YtoidecclimhgjaaGreatDoor
