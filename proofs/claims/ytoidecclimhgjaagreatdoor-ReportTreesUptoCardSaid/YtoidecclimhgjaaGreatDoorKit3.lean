/- The kit's Lent.. -/
import Derived.Test.YtoidecclimhgjaaGreatDoorAppend
namespace Go.Proofs.YtoidecclimhgjaaGreatDoor
open Go.RowKit

/-- A list was lent: the result's row, with its mark. -/
def LentEnd (w : World) (e : TypeId) (size n : Nat) (xs : List Value) (en : Ending) (w' : World) : Prop :=
  Below w.heap.size w w' ∧ ∃ A c, en = .returned (.slice A n c) ∧ w'.ownsRow w.heap.size e size (.slice A (n + 1) c) (n + 1) xs

theorem Tryz.info9 : (Tryz.prog.info? 9).map (fun i => (i.zero, i.size, i.bytes)) = some (some (.string ⟨#[]⟩), 1, 16) := by kernel_rfl
theorem Tryz.info61 : (Tryz.prog.info? 61).map (fun i => (i.zero, i.size, i.bytes)) = some (some (.agg #[.int .i64 0, .slice none 0 0]), 2, 32) := by kernel_rfl

set_option maxHeartbeats 1000000 in
theorem lentInts_any (A : Option Addr) (c : Nat) (l : List Int) (w : World) (B : Nat) (h : Row w B A (nums l)) (hl : l.length ≤ 1099511627776) :
    Calls Tryz.prog 29 #[.slice A l.length c] w (LentEnd w 3 1 l.length (nums l ++ [.int .i64 (-7171)])) := by
  obtain ⟨i0, hi, hz0, hz1, hz2⟩ := info_parts Tryz.info3
  go_enter Tryz.func29, Tryz.ntmps29
  go_wp2_with (first
    | (at_builtin; refine wpList_append_row rfl _ _ 43 rfl w.heap.size 3 i0 _ 1 8 Tryz.underlying43 hi hz0 hz1 hz2 rfl (by decide) (.slice none 0 0) 0 [] rfl (World.ownsRow_nil _ _ _ _) B A l.length c (nums l) rfl (by simp [nums]) h (nums_one l) (by unfold maxLen; omega) (by omega) (Nat.le_refl _) ?_; intro v1 w1 ho1 hg1; rw [Nat.zero_add, List.nil_append] at ho1; obtain ⟨A1, c1, rfl⟩ := own_form ho1)
    | (at_builtin; refine wpList_append_own _ rfl _ _ 43 rfl w.heap.size 3 i0 _ 1 8 Tryz.underlying43 hi hz0 hz1 hz2 rfl (by decide) (.slice A1 l.length c1) l.length _ rfl (ho1.alloc _) ⟨w1.heap.size, 0, none⟩ 1 1 [.int .i64 (-7171)] rfl rfl (World.news_of_block (heap_alloc_new w1 _)) (by intro u hu; simp at hu; first | (subst hu; rfl) | (rcases hu with rfl | rfl <;> rfl)) (by unfold maxLen; omega) (by omega) (by have := hg1.size; simp; omega) ?_; intro v2 w2 ho2 hg2 _; obtain ⟨A2, c2, rfl⟩ := own_form ho2; have hcp := own_cap ho2))
  go_ret
  exact ⟨((Below.refl _ _).grown hg1 (Nat.le_refl _) (fun k hk => by simp [Value.ownBlock] at hk)).trans ((((Below.refl _ _).alloc (by have := hg1.size; omega) _).grown hg2 (by simp; have := hg1.size; omega) (fun k hk => (ho1.lt k hk).1))), A2, c2, rfl, ho2⟩

set_option maxHeartbeats 1000000 in
theorem lentStrings_any (A : Option Addr) (c : Nat) (l : List ByteArray) (w : World) (B : Nat) (h : Row w B A (strs l)) (hl : l.length ≤ 1099511627776) :
    Calls Tryz.prog 11 #[.slice A l.length c] w (LentEnd w 9 1 l.length (strs l ++ [.string ⟨#[109, 97, 114, 107]⟩])) := by
  obtain ⟨i0, hi, hz0, hz1, hz2⟩ := info_parts Tryz.info9
  go_enter Tryz.func11, Tryz.ntmps11
  go_wp2_with (first
    | (at_builtin; refine wpList_append_row rfl _ _ 22 rfl w.heap.size 9 i0 _ 1 16 Tryz.underlying22 hi hz0 hz1 hz2 rfl (by decide) (.slice none 0 0) 0 [] rfl (World.ownsRow_nil _ _ _ _) B A l.length c (strs l) rfl (by simp [strs]) h (strs_one l) (by unfold maxLen; omega) (by omega) (Nat.le_refl _) ?_; intro v1 w1 ho1 hg1; rw [Nat.zero_add, List.nil_append] at ho1; obtain ⟨A1, c1, rfl⟩ := own_form ho1)
    | (at_builtin; refine wpList_append_own _ rfl _ _ 22 rfl w.heap.size 9 i0 _ 1 16 Tryz.underlying22 hi hz0 hz1 hz2 rfl (by decide) (.slice A1 l.length c1) l.length _ rfl (ho1.alloc _) ⟨w1.heap.size, 0, none⟩ 1 1 [.string ⟨#[109, 97, 114, 107]⟩] rfl rfl (World.news_of_block (heap_alloc_new w1 _)) (by intro u hu; simp at hu; first | (subst hu; rfl) | (rcases hu with rfl | rfl <;> rfl)) (by unfold maxLen; omega) (by omega) (by have := hg1.size; simp; omega) ?_; intro v2 w2 ho2 hg2 _; obtain ⟨A2, c2, rfl⟩ := own_form ho2; have hcp := own_cap ho2))
  go_ret
  exact ⟨((Below.refl _ _).grown hg1 (Nat.le_refl _) (fun k hk => by simp [Value.ownBlock] at hk)).trans ((((Below.refl _ _).alloc (by have := hg1.size; omega) _).grown hg2 (by simp; have := hg1.size; omega) (fun k hk => (ho1.lt k hk).1))), A2, c2, rfl, ho2⟩

set_option maxHeartbeats 1000000 in
theorem lentSteps_any (A : Option Addr) (c : Nat) (l : List (Int × Int × Int)) (w : World) (B : Nat) (h : Row w B A (stepCells l)) (hl : l.length ≤ 1099511627776) :
    Calls Tryz.prog 5 #[.slice A l.length c] w (LentEnd w 42 3 l.length (stepCells l ++ [.int .i64 (-71), .int .i64 0, .int .i64 0])) := by
  obtain ⟨i0, hi, hz0, hz1, hz2⟩ := info_parts Tryz.info42
  go_enter Tryz.func5, Tryz.ntmps5
  go_wp2_with (first
    | (at_builtin; refine wpList_append_row rfl _ _ 26 rfl w.heap.size 42 i0 _ 3 24 Tryz.underlying26 hi hz0 hz1 hz2 rfl (by decide) (.slice none 0 0) 0 [] rfl (World.ownsRow_nil _ _ _ _) B A l.length c (stepCells l) rfl (by simp [stepCells_length]) h (stepCells_one l) (by unfold maxLen; omega) (by omega) (Nat.le_refl _) ?_; intro v1 w1 ho1 hg1; rw [Nat.zero_add, List.nil_append] at ho1; obtain ⟨A1, c1, rfl⟩ := own_form ho1)
    | (at_builtin; refine wpList_append_own _ rfl _ _ 26 rfl w.heap.size 42 i0 _ 3 24 Tryz.underlying26 hi hz0 hz1 hz2 rfl (by decide) (.slice A1 l.length c1) l.length _ rfl (ho1.alloc _) ⟨w1.heap.size, 0, none⟩ 1 1 [.int .i64 (-71), .int .i64 0, .int .i64 0] rfl rfl (World.news_of_block (heap_alloc_new w1 _)) (by intro u hu; simp at hu; first | (subst hu; rfl) | (rcases hu with rfl | rfl <;> rfl)) (by unfold maxLen; omega) (by omega) (by have := hg1.size; simp; omega) ?_; intro v2 w2 ho2 hg2 _; obtain ⟨A2, c2, rfl⟩ := own_form ho2; have hcp := own_cap ho2))
  go_ret
  exact ⟨((Below.refl _ _).grown hg1 (Nat.le_refl _) (fun k hk => by simp [Value.ownBlock] at hk)).trans ((((Below.refl _ _).alloc (by have := hg1.size; omega) _).grown hg2 (by simp; have := hg1.size; omega) (fun k hk => (ho1.lt k hk).1))), A2, c2, rfl, ho2⟩
end Go.Proofs.YtoidecclimhgjaaGreatDoor
