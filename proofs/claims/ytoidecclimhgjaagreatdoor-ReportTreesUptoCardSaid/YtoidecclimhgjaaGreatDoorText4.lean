/- show.Symbol. -/
import Derived.Test.YtoidecclimhgjaaGreatDoorText3
namespace Go.Proofs.YtoidecclimhgjaaGreatDoor
open Go.RowKit

def freeName (n : ByteArray) : Prop := plainAll n ∧ n ≠ ⟨#[58]⟩ ∧ n ≠ ⟨#[124]⟩
instance (n : ByteArray) : Decidable (freeName n) := by unfold freeName; infer_instance
def quoteB (n : ByteArray) : ByteArray := ⟨(quoteL n.data.toList).toArray⟩
/-- A symbol's text. -/
def symF (T N : List ByteArray) (s : Int) : ByteArray :=
  if s = T.length then ⟨#[36]⟩ else match nameOf T N s with
  | none => ⟨#[63]⟩
  | some n => if s < 0 then (if freeName n then n else ⟨#[60]⟩ ++ quoteB n ++ ⟨#[62]⟩) else if n ∈ N ∨ ¬ freeName n then quoteB n else n

theorem nameOf_mem {T N : List ByteArray} {s : Int} {n : ByteArray} (h : nameOf T N s = some n) : n ∈ T ++ N := by
  unfold nameOf at h
  split at h
  · exact List.mem_append_right _ (List.mem_of_getElem? h)
  · exact List.mem_append_left _ (List.mem_of_getElem? h)
theorem quoteB_le (n : ByteArray) : (quoteB n).size ≤ 4 * n.size + 2 := by
  have := flat_le n.data.toList
  show (quoteL n.data.toList).toArray.size ≤ _
  simp only [quoteL, List.size_toArray, List.length_append, List.length_cons, List.length_nil, Array.length_toList] at this ⊢
  show _ ≤ 4 * n.data.size + 2
  omega

set_option maxHeartbeats 4000000 in
set_option maxRecDepth 100000 in
theorem symbol_any (g : GV) (s : Int) (hs : -9223372036854775808 ≤ s ∧ s < 9223372036854775808) (w : World) (B : Nat) (hg : g.In w B) (hB : B ≤ w.heap.size) (hn : ∀ n ∈ g.T ++ g.N, n.size ≤ 1099511627776) :
    Calls Tryz.prog 32 #[g.val, .int .i64 s] w (RetV w (.string (symF g.T g.N s))) := by
  obtain ⟨T, AT, cT, N, AN, cN, ax, R, AR, cR⟩ := g
  have bw : Below w.heap.size w (w.alloc (.cells #[.slice AT T.length cT, .slice AN N.length cN, .int .i64 ax, .slice AR R.length cR] 25)) := (Below.refl _ _).alloc (Nat.le_refl _) _
  have hm := name_any _ s hs _ w.heap.size ((hg.more hB).below bw) bw.size
  have HG := Lib.hid (hg.more hB)
  have hcT := hg.tc
  simp only [GV.val] at *
  have H := Lib.hid hm
  clear hm hg
  go_enter Tryz.func32, Tryz.ntmps32
  go_wp2_with fail
  refine H.out.mono ?_
  rintro en w1 ⟨hb1, rfl⟩
  have hbw1 : Below w.heap.size w w1 := bw.trans (hb1.mono bw.size)
  have b0 : w1.cell? ⟨w.heap.size, 0, none⟩ = some (.slice AT T.length cT) := (hb1.cell (by simp)).trans (by go_simp)
  have b1 : w1.cell? ⟨w.heap.size, 1, none⟩ = some (.slice AN N.length cN) := (hb1.cell (by simp)).trans (by go_simp)
  have b2 : w1.cell? ⟨w.heap.size, 2, none⟩ = some (.int .i64 ax) := (hb1.cell (by simp)).trans (by go_simp)
  have b3 : w1.cell? ⟨w.heap.size, 3, none⟩ = some (.slice AR R.length cR) := (hb1.cell (by simp)).trans (by go_simp)
  clear H
  by_cases h0 : s = T.length
  · have HS : Hid (symF T N s = ⟨#[36]⟩) := Lib.hid (by rw [symF, if_pos h0])
    have g0 : (s == (T.length : Int)) = true := by simp [h0]
    clear h0
    generalize hno : nameOf T N s = no at *
    go_wp2_with fail
    go_ret
    exact ⟨hbw1, by rw [HS.out]; rfl⟩
  have g0 : (s == (T.length : Int)) = false := by simp [h0]
  cases hno : nameOf T N s with
  | none =>
    have HS : Hid (symF T N s = ⟨#[63]⟩) := Lib.hid (by rw [symF, if_neg h0, hno])
    simp only [hno] at *
    go_wp2_with fail
    go_ret
    exact ⟨hbw1, by rw [HS.out]; rfl⟩
  | some n =>
    have hsz := hn n (nameOf_mem hno)
    have HS : Hid (symF T N s = if s < 0 then (if freeName n then n else ⟨#[60]⟩ ++ quoteB n ++ ⟨#[62]⟩) else if n ∈ N ∨ ¬ freeName n then quoteB n else n) := Lib.hid (by rw [symF, if_neg h0, hno])
    have HF := Lib.hid fun w => free_any n (by omega) w
    have HQ := Lib.hid fun w => quote_any n hsz w
    change Hid (∀ w, Calls _ _ _ _ (Quiet w (.bool (decide (freeName n))))) at HF
    change Hid (∀ w, Calls _ _ _ _ (RetV w (.string (quoteB n)))) at HQ
    have hql := quoteB_le n
    clear h0 hno hn
    by_cases h1 : s < 0
    · by_cases h2 : freeName n
      · rw [decide_eq_true h2] at HF
        go_wp2_with fail
        refine (HF.out _).mono ?_
        rintro en w2 ⟨rfl, m, rfl⟩
        go_wp2_with fail
        go_ret
        exact ⟨below_dN hbw1 _, by rw [HS.out, if_pos h1, if_pos h2]; rfl⟩
      · rw [decide_eq_false h2] at HF
        have hq := hql
        go_wp2_with fail
        refine (HF.out _).mono ?_
        rintro en w2 ⟨rfl, m, rfl⟩
        go_wp2_with fail
        refine (HQ.out _).mono ?_
        rintro en w3 ⟨hb3, rfl⟩
        go_wp2_with fail
        go_ret
        exact ⟨(below_dN hbw1 m).trans (hb3.mono hbw1.size), by rw [HS.out, if_pos h1, if_neg h2]; rfl⟩
    · have hf := nonterm_any ⟨T, AT, cT, N, AN, cN, ax, R, AR, cR⟩ n w1 w1.heap.size ((HG.out.below hbw1).more hbw1.size) (Nat.le_refl _)
      simp only [GV.val] at hf
      have HN := Lib.hid hf
      clear hf
      by_cases h3 : n ∈ N
      · rw [decide_eq_true h3] at HN
        go_wp2_with fail
        refine HN.out.mono ?_
        rintro en w2 ⟨hb2, rfl⟩
        go_wp2_with fail
        refine (HQ.out _).mono ?_
        rintro en w3 ⟨hb3, rfl⟩
        have hbz := hbw1.trans (hb2.mono hbw1.size)
        go_wp2_with fail
        go_ret
        exact ⟨hbz.trans (hb3.mono hbz.size), by rw [HS.out, if_neg (show ¬ s < 0 by omega), if_pos (.inl h3)]; rfl⟩
      · rw [decide_eq_false h3] at HN
        by_cases h2 : freeName n
        · rw [decide_eq_true h2] at HF
          go_wp2_with fail
          refine HN.out.mono ?_
          rintro en w2 ⟨hb2, rfl⟩
          have hbz := hbw1.trans (hb2.mono hbw1.size)
          go_wp2_with fail
          refine (HF.out _).mono ?_
          rintro en w3 ⟨rfl, m, rfl⟩
          go_wp2_with fail
          go_ret
          exact ⟨below_dN hbz _, by rw [HS.out, if_neg (show ¬ s < 0 by omega), if_neg (by simp [h3, h2])]; rfl⟩
        · rw [decide_eq_false h2] at HF
          go_wp2_with fail
          refine HN.out.mono ?_
          rintro en w2 ⟨hb2, rfl⟩
          have hbz := hbw1.trans (hb2.mono hbw1.size)
          go_wp2_with fail
          refine (HF.out _).mono ?_
          rintro en w3 ⟨rfl, m, rfl⟩
          go_wp2_with fail
          refine (HQ.out _).mono ?_
          rintro en w4 ⟨hb4, rfl⟩
          go_wp2_with fail
          go_ret
          exact ⟨(below_dN hbz m).trans (hb4.mono hbz.size), by rw [HS.out, if_neg (show ¬ s < 0 by omega), if_pos (.inr h2)]; rfl⟩
end Go.Proofs.YtoidecclimhgjaaGreatDoor
