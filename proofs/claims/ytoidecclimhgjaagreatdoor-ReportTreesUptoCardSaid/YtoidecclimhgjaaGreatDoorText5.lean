/- show.Symbols. -/
import Derived.Test.YtoidecclimhgjaaGreatDoorText4
namespace Go.Proofs.YtoidecclimhgjaaGreatDoor
open Go.RowKit

theorem symF_le {T N : List ByteArray} {s : Int} (hn : ∀ n ∈ T ++ N, n.size ≤ 1048576) : (symF T N s).size ≤ 4194310 := by
  unfold symF
  split
  · show 1 ≤ _; omega
  · split
    · show 1 ≤ _; omega
    · rename_i n h
      have h1 := hn n (nameOf_mem h)
      have h2 := quoteB_le n
      repeat' split
      all_goals (try simp only [ByteArray.size_append]) <;> (try have : (⟨#[60]⟩ : ByteArray).size = 1 := rfl) <;> (try have : (⟨#[62]⟩ : ByteArray).size = 1 := rfl) <;> omega
theorem symF_pos {T N : List ByteArray} {s : Int} : 0 < (symF T N s).size := by
  have hq : ∀ n, 0 < (quoteB n).size := fun n => by show 0 < (quoteL n.data.toList).toArray.size; simp [quoteL]
  unfold symF
  split
  · show 0 < 1; omega
  · split
    · show 0 < 1; omega
    · rename_i n h
      have h2 := hq n
      split
      · split
        · rename_i h3; exact h3.1.2.1
        · simp only [ByteArray.size_append]; omega
      · split
        · exact h2
        · rename_i h3; simp only [not_or, Classical.not_not] at h3; exact h3.2.1.2.1

/-- Symbols' text, from their texts. -/
def joinL (l : List (List UInt8)) : List UInt8 := match l with | [] => [] | a :: r => a ++ r.flatMap (fun b => 32 :: b)
theorem joinL_zero (a : List UInt8) : joinL [a] = a := by simp [joinL]
theorem joinL_snoc (l : List (List UInt8)) (a : List UInt8) (h : l ≠ []) : joinL (l ++ [a]) = joinL l ++ [32] ++ a := by
  cases l with
  | nil => exact absurd rfl h
  | cons b r => simp [joinL]
def symsL (T N : List ByteArray) (l : List Int) : List UInt8 := joinL (l.map fun s => (symF T N s).data.toList)
theorem symsL_first (T N : List ByteArray) (l : List Int) (h : 0 < l.length) : symsL T N (l.take 1) = (symF T N l[0]).data.toList := by
  cases l with
  | nil => simp at h
  | cons a r => simp [symsL, joinL]
theorem symsL_next (T N : List ByteArray) (l : List Int) (k : Nat) (h0 : k ≠ 0) (h : k < l.length) : symsL T N (l.take (k+1)) = symsL T N (l.take k) ++ [32] ++ (symF T N l[k]).data.toList := by
  rw [List.take_succ_eq_append_getElem h, symsL, List.map_append, List.map_cons, List.map_nil, joinL_snoc _ _ (by simp; exact ⟨h0, by intro e; simp [e] at h⟩)]; rfl
theorem symsL_le (T N : List ByteArray) (hn : ∀ n ∈ T ++ N, n.size ≤ 1048576) (l : List Int) : (symsL T N l).length ≤ 4194311 * l.length := by
  have hs : ∀ s, (symF T N s).data.toList.length ≤ 4194310 := fun s => symF_le hn
  have hf : ∀ r : List Int, ((r.map fun s => (symF T N s).data.toList).flatMap (fun b => 32 :: b)).length ≤ 4194311 * r.length := by
    intro r
    induction r with
    | nil => simp
    | cons a r ih => have := hs a; simp only [List.map_cons, List.flatMap_cons, List.length_append, List.length_cons] at ih ⊢; omega
  cases l with
  | nil => simp [symsL, joinL]
  | cons a r => have := hs a; have := hf r; simp only [symsL, joinL, List.map_cons, List.length_append, List.length_cons] at this ⊢; omega
theorem symsL_ne (T N : List ByteArray) (l : List Int) (h : l ≠ []) : symsL T N l ≠ [] := by
  cases l with
  | nil => exact absurd rfl h
  | cons a r =>
    have hp : 0 < (symF T N a).data.toList.length := symF_pos
    intro e
    have h2 := congrArg List.length e
    simp only [symsL, joinL, List.map_cons, List.length_append, List.length_nil] at h2
    omega

set_option maxHeartbeats 4000000 in
set_option maxRecDepth 100000 in
theorem symbols_any (g : GV) (l : List Int) (A : Option Addr) (c : Nat) (w : World) (B : Nat) (hg : g.In w B) (hl : Row w B A (nums l)) (hlc : l.length ≤ 1048576) (h0 : l ≠ []) (hr : ∀ s ∈ l, -9223372036854775808 ≤ s ∧ s < 9223372036854775808)
    (hB : B ≤ w.heap.size) (hn : ∀ n ∈ g.T ++ g.N, n.size ≤ 1048576) :
    Calls Tryz.prog 33 #[g.val, .slice A l.length c] w (RetV w (.string ⟨(symsL g.T g.N l).toArray⟩)) := by
  obtain ⟨T, AT, cT, N, AN, cN, ax, R, AR, cR⟩ := g
  have bw : Below w.heap.size w (w.alloc (.cells #[.slice AT T.length cT, .slice AN N.length cN, .int .i64 ax, .slice AR R.length cR] 25)) := (Below.refl _ _).alloc (Nat.le_refl _) _
  have B0 := Bld.fresh (w.alloc (.cells #[.slice AT T.length cT, .slice AN N.length cN, .int .i64 ax, .slice AR R.length cR] 25)) 50 []
  have HG := Lib.hid (hg.more hB)
  have HL := Lib.hid (hl.more hB)
  have Hn0 := Lib.hid h0
  have Hle := Lib.hid (symsL_le T N hn)
  have Hsy := Lib.hid fun (s : Int) hs w' B' hg' hB' => symbol_any ⟨T, AT, cT, N, AN, cN, ax, R, AR, cR⟩ s hs w' B' hg' hB' (fun n h => Nat.le_trans (hn n h) (by omega))
  have Hsz := Lib.hid fun s => symF_le (s := s) hn
  simp only [GV.val] at *
  clear hg hl h0 hn
  go_enter Tryz.func33, Tryz.ntmps33
  go_wp2_with fail
  have hW : (w.alloc (.cells #[.slice AT T.length cT, .slice AN N.length cN, .int .i64 ax, .slice AR R.length cR] 25)).heap.size = w.heap.size + 1 := by simp
  rw [hW] at B0
  have hb0 := ((Below.refl (w.heap.size + 1) (w.alloc (.cells #[.slice AT T.length cT, .slice AN N.length cN, .int .i64 ax, .slice AR R.length cR] 25))).alloc (by simp) (.cells #[.pointer none, .slice none 0 0] 50))
  go_loopw [10] (fun i wr => ∃ k : Nat, k ≤ l.length ∧ i = .int .i64 k ∧ Below (w.heap.size + 1) (w.alloc (.cells #[.slice AT T.length cT, .slice AN N.length cN, .int .i64 ax, .slice AR R.length cR] 25)) wr ∧ Bld wr (w.heap.size + 1) (w.heap.size + 1) 50 [] (symsL T N (l.take k))) (fun i _ => l.length - (intOf i).toNat)
  case atStart => exact ⟨0, Nat.zero_le _, rfl, hb0, B0⟩
  case round =>
    obtain ⟨k, hk, rfl, hbq, hBq⟩ := hrel
    clear B0 hb0
    have hbz : Below w.heap.size w wr := bw.trans (hbq.mono (by omega))
    have hle := Hle.out (l.take k)
    rw [List.length_take, Nat.min_eq_left hk] at hle
    have hqs : w.heap.size + 1 ≤ wr.heap.size := by have := hbq.size; simp at this; omega
    by_cases hlt : k < l.length
    · obtain ⟨b, o, rfl, hbl, hc⟩ := (HL.out.below hbz).at_ (k := k) (by simpa [nums] using hlt)
      have hck : wr.cell? ⟨b, o + k, none⟩ = some (.int .i64 l[k]) := by rw [hc k (by simpa [nums] using hlt)]; simp [nums]
      clear hc
      have b0 : wr.cell? ⟨w.heap.size, 0, none⟩ = some (.slice AT T.length cT) := (hbq.cell (by simp)).trans (by go_simp)
      have b1 : wr.cell? ⟨w.heap.size, 1, none⟩ = some (.slice AN N.length cN) := (hbq.cell (by simp)).trans (by go_simp)
      have b2 : wr.cell? ⟨w.heap.size, 2, none⟩ = some (.int .i64 ax) := (hbq.cell (by simp)).trans (by go_simp)
      have b3 : wr.cell? ⟨w.heap.size, 3, none⟩ = some (.slice AR R.length cR) := (hbq.cell (by simp)).trans (by go_simp)
      have hlen3 := Hsz.out l[k]
      by_cases hk0 : k = 0
      · have Hst : Hid (symsL T N (l.take (k + 1)) = (symF T N l[k]).data.toList) := by subst hk0; exact Lib.hid (symsL_first T N l hlt)
        have Hem : Hid (symsL T N (l.take k) = []) := by subst hk0; exact Lib.hid rfl
        have hk1 : ¬ (0 : Int) < k := by omega
        clear hk0
        rw [Hem.out] at hBq
        go_wp2_with fail
        refine (Hsy.out l[k] (hr _ (List.getElem_mem hlt)) wr _ (HG.out.below hbz) hbz.size).mono ?_
        rintro en w3 ⟨hb3, rfl⟩
        have H3 := Lib.hid (writeString_any 50 [] bt_builder _ _ _ (symF T N l[k]) w3 (hBq.below hb3 (Nat.le_refl _)) (by simp; omega) (by have := hb3.size; omega))
        clear hle Hle
        go_wp2_with fail
        refine H3.out.mono ?_
        rintro en w4 ⟨rfl, hb4, hB4⟩
        go_wp2_with fail
        go_roundw
        case rel => exact ⟨k + 1, by omega, by go_num, (hbq.trans (hb3.mono hqs)).trans hb4, by rw [Hst.out]; exact hB4⟩
        case measure => simp [intOf]; omega
      · have Hst : Hid (symsL T N (l.take (k + 1)) = symsL T N (l.take k) ++ [32] ++ (symF T N l[k]).data.toList) := Lib.hid (symsL_next T N l k hk0 hlt)
        have hk1 : (0 : Int) < k := by omega
        have H2 := Lib.hid (writeByte_any 50 [] bt_builder _ _ _ 32 _ hBq (by omega) hqs)
        clear hk0
        go_wp2_with fail
        refine H2.out.mono ?_
        rintro en w2 ⟨rfl, hb2, hB2⟩
        have hb12 := hbq.trans hb2
        have hbz2 : Below w.heap.size w w2 := bw.trans (hb12.mono (by omega))
        have d0 : w2.cell? ⟨w.heap.size, 0, none⟩ = some (.slice AT T.length cT) := (hb12.cell (by simp)).trans (by go_simp)
        have d1 : w2.cell? ⟨w.heap.size, 1, none⟩ = some (.slice AN N.length cN) := (hb12.cell (by simp)).trans (by go_simp)
        have d2 : w2.cell? ⟨w.heap.size, 2, none⟩ = some (.int .i64 ax) := (hb12.cell (by simp)).trans (by go_simp)
        have d3 : w2.cell? ⟨w.heap.size, 3, none⟩ = some (.slice AR R.length cR) := (hb12.cell (by simp)).trans (by go_simp)
        have hq2 : w.heap.size + 1 ≤ w2.heap.size := Nat.le_trans hqs hb2.size
        clear b0 b1 b2 b3 H2
        go_wp2_with fail
        refine (Hsy.out l[k] (hr _ (List.getElem_mem hlt)) w2 _ (HG.out.below hbz2) hbz2.size).mono ?_
        rintro en w3 ⟨hb3, rfl⟩
        have H3 := Lib.hid (writeString_any 50 [] bt_builder _ _ _ (symF T N l[k]) w3 (hB2.below hb3 (Nat.le_refl _)) (by simp only [List.length_append, List.length_cons, List.length_nil]; omega) (by have := hb3.size; omega))
        clear hle Hle
        go_wp2_with fail
        refine H3.out.mono ?_
        rintro en w4 ⟨rfl, hb4, hB4⟩
        go_wp2_with fail
        go_roundw
        case rel => exact ⟨k + 1, by omega, by go_num, (hb12.trans (hb3.mono hq2)).trans hb4, by rw [Hst.out]; exact hB4⟩
        case measure => simp [intOf]; omega
    · have ht : l.take k = l := List.take_of_length_le (by omega)
      rw [ht] at hBq
      have H2 := Lib.hid (builderString_any 50 [] _ _ _ _ hBq (symsL_ne T N l Hn0.out))
      clear hBq Hle hle
      go_wp2_with fail
      refine H2.out.mono ?_
      rintro en w3 ⟨rfl, hb3⟩
      go_wp2_with fail
      go_ret
      exact ⟨hbz.trans (hb3.mono (by omega)), rfl⟩
end Go.Proofs.YtoidecclimhgjaaGreatDoor
