/- dovetailref02.Quote. -/
import Derived.Test.YtoidecclimhgjaaGreatDoorRef02
namespace Go.Proofs.YtoidecclimhgjaaGreatDoor
open Go.RowKit

theorem byteCells_append (a b : List UInt8) : Lib.byteCells (a ++ b) = Lib.byteCells a ++ Lib.byteCells b := by simp [Lib.byteCells]
theorem byteCells_length (a : List UInt8) : (Lib.byteCells a).length = a.length := by simp [Lib.byteCells]
theorem hexOf_fig (k : Nat) (h : k < 16) : ((hexOf k).toNat : Int) = figI k := by
  have : ∀ k : Fin 16, ((hexOf k.val).toNat : Int) = figI k.val := by decide +kernel
  exact this ⟨k, h⟩

set_option maxHeartbeats 4000000 in
set_option maxRecDepth 100000 in
theorem rquote_any (s : ByteArray) (hs : s.size ≤ 1099511627776) (w : World) :
    Calls Tryz.prog 66 #[.string s] w (RetV w (.string (quoteB s))) := by
  obtain ⟨i0, hi, hz0, hz1, hz2⟩ := info_parts Tryz.info5
  have hl : s.data.toList.length = s.size := rfl
  have hown0 : (w.alloc (.cells #[.int .u8 34] 5)).ownsRow w.heap.size 5 1 (.slice (some ⟨w.heap.size, 0, none⟩) 1 1) 1 (Lib.byteCells (34 :: (s.data.toList.take 0).flatMap quoteByte)) :=
    World.ownsRow_lit w #[.int .u8 34] 1 (Nat.le_refl _) (by decide) rfl
  have hbw0 : Below w.heap.size w (w.alloc (.cells #[.int .u8 34] 5)) := (Below.refl _ _).alloc (Nat.le_refl _) _
  go_enter Tryz.func66, Tryz.ntmps66
  go_wp2_with fail
  go_loopw [3, 4] (fun v i wr => ∃ (k : Nat) (A : Option Addr) (c n : Nat), k ≤ s.size ∧ i = .int .i64 k ∧ v = .slice A n c ∧ Below w.heap.size w wr ∧ wr.ownsRow w.heap.size 5 1 (.slice A n c) n (Lib.byteCells (34 :: (s.data.toList.take k).flatMap quoteByte))) (fun _ i _ => s.size - (intOf i).toNat)
  case atStart => exact ⟨0, _, _, 1, Nat.zero_le _, rfl, rfl, hbw0, hown0⟩
  case round =>
    obtain ⟨k, A, c, n, hk, rfl, rfl, hbw, ho⟩ := hrel
    clear hown0 hbw0
    have hn : n ≤ 4398046511105 := by
      have h1 := ho.1
      rw [byteCells_length] at h1
      have := flat_le (s.data.toList.take k); simp only [List.length_cons, List.length_take] at this h1; omega
    have hz := hbw.size
    by_cases hlt : k < s.size
    · have hstep := quote_step s.data.toList k hlt
      have hsk : s.data.toList[k] = s[k] := rfl
      rw [hsk] at hstep
      obtain ⟨bs, hbs⟩ : ∃ bs, (34 :: (s.data.toList.take k).flatMap quoteByte) = bs := ⟨_, rfl⟩
      rw [hbs] at ho hstep
      obtain ⟨ch, hch⟩ : ∃ ch, s[k] = ch := ⟨_, rfl⟩
      rw [hch] at hstep
      have Hstep := Lib.hid hstep
      have Hch := Lib.hid hch
      have hy := ch.toNat_lt
      have HE : Hid (∀ news : List Value, Lib.byteCells (quoteByte ch) = news → ∀ (w' : World) (v : Value) (m : Nat), w'.ownsRow w.heap.size 5 1 v m (Lib.byteCells bs ++ news) → w'.ownsRow w.heap.size 5 1 v m (Lib.byteCells (34 :: (s.data.toList.take (k + 1)).flatMap quoteByte))) := Lib.hid fun news hn w' v m h => by
        rw [Hstep.out, byteCells_append, hn]; exact h
      clear hstep hsk hbs
      by_cases h1 : ch = 34 ∨ ch = 92
      · have Hq : Hid (Lib.byteCells (quoteByte ch) = [.int .u8 92, .int .u8 ch.toNat]) := Lib.hid (by rw [quoteByte, if_pos h1]; rfl)
        have g1 : ((ch.toNat : Int) == 34) = true ∨ (((ch.toNat : Int) == 34) = false ∧ ((ch.toNat : Int) == 92) = true) := by
          rcases h1 with rfl | rfl
          · exact .inl rfl
          · exact .inr ⟨rfl, rfl⟩
        obtain ⟨y, Hy⟩ : ∃ y : Int, Hid ((ch.toNat : Int) = y) := ⟨_, Lib.hid rfl⟩
        rw [Hy.out] at g1 Hq
        have hck : ((s[k].toNat : Nat) : Int) = y := by rw [hch]; exact Hy.out
        clear h1 hch
        rcases g1 with g1 | ⟨g1, g2⟩
        all_goals
          go_wp2_with (at_builtin; refine wpList_append_own _ rfl _ _ 48 rfl w.heap.size 5 i0 (.int .u8 0) 1 1 Tryz.underlying48 hi hz0 hz1 hz2 rfl (by decide) (.slice A n c) n _ rfl (ho.alloc _) ⟨wr.heap.size, 0, none⟩ 2 2 [.int .u8 92, .int .u8 y] rfl rfl (World.news_of_block (heap_alloc_new wr _)) (by intro u hu; simp at hu; rcases hu with rfl | rfl <;> rfl) (by unfold maxLen; omega) (by omega) (by simp; omega) ?_; intro v3 w3 ho3 hg3 _; obtain ⟨A3, c3, rfl⟩ := own_form ho3)
          go_roundw
          case rel => exact ⟨k + 1, A3, c3, n + 2, by omega, by go_num, rfl, (hbw.alloc hz _).grown hg3 (by simp; omega) (fun j hj => (ho.lt j hj).1), HE.out _ Hq.out _ _ _ ho3⟩
          case measure => simp [intOf]; omega
      by_cases h2 : ch = 10
      · have Hq : Hid (Lib.byteCells (quoteByte ch) = [.int .u8 92, .int .u8 110]) := Lib.hid (by rw [quoteByte, if_neg h1, if_pos h2]; rfl)
        have g1 : ((ch.toNat : Int) == 34) = false ∧ ((ch.toNat : Int) == 92) = false ∧ ((ch.toNat : Int) == 10) = true := by rw [h2]; exact ⟨rfl, rfl, rfl⟩
        obtain ⟨y, Hy⟩ : ∃ y : Int, Hid ((ch.toNat : Int) = y) := ⟨_, Lib.hid rfl⟩
        rw [Hy.out] at g1
        have hck : ((s[k].toNat : Nat) : Int) = y := by rw [hch]; exact Hy.out
        obtain ⟨g1, g2, g3⟩ := g1
        clear h1 h2 hch
        go_wp2_with (at_builtin; refine wpList_append_own _ rfl _ _ 48 rfl w.heap.size 5 i0 (.int .u8 0) 1 1 Tryz.underlying48 hi hz0 hz1 hz2 rfl (by decide) (.slice A n c) n _ rfl (ho.alloc _) ⟨wr.heap.size, 0, none⟩ 2 2 [.int .u8 92, .int .u8 110] rfl rfl (World.news_of_block (heap_alloc_new wr _)) (by intro u hu; simp at hu; rcases hu with rfl | rfl <;> rfl) (by unfold maxLen; omega) (by omega) (by simp; omega) ?_; intro v3 w3 ho3 hg3 _; obtain ⟨A3, c3, rfl⟩ := own_form ho3)
        go_roundw
        case rel => exact ⟨k + 1, A3, c3, n + 2, by omega, by go_num, rfl, (hbw.alloc hz _).grown hg3 (by simp; omega) (fun j hj => (ho.lt j hj).1), HE.out _ Hq.out _ _ _ ho3⟩
        case measure => simp [intOf]; omega
      have g1 : ((ch.toNat : Int) == 34) = false ∧ ((ch.toNat : Int) == 92) = false ∧ ((ch.toNat : Int) == 10) = false := by
        simp only [not_or] at h1
        refine ⟨?_, ?_, ?_⟩ <;> rw [beq_eq_false_iff_ne] <;> intro e
        · exact h1.1 (UInt8.toNat_inj.1 (by simp; omega))
        · exact h1.2 (UInt8.toNat_inj.1 (by simp; omega))
        · exact h2 (UInt8.toNat_inj.1 (by simp; omega))
      by_cases h3 : ch.toNat < 32 ∨ 126 < ch.toNat
      · have Hq : Hid (Lib.byteCells (quoteByte ch) = [.int .u8 92, .int .u8 120, .int .u8 (figI ((ch.toNat : Int) / 16)), .int .u8 (figI ((ch.toNat : Int) % 16))]) := Lib.hid (by
          rw [quoteByte, if_neg h1, if_neg h2, if_pos h3]
          have e1 := hexOf_fig (ch.toNat / 16) (by omega)
          have e2 := hexOf_fig (ch.toNat % 16) (by omega)
          simp only [Lib.byteCells, List.map_cons, List.map_nil, e1, e2]
          rfl)
        obtain ⟨y, Hy⟩ : ∃ y : Int, Hid ((ch.toNat : Int) = y) := ⟨_, Lib.hid rfl⟩
        have hy0 : 0 ≤ y ∧ y < 256 := by have := Hy.out; omega
        have g4 : y < 32 ∨ (¬ y < 32 ∧ 126 < y) := by have := Hy.out; omega
        rw [Hy.out] at g1 Hq
        have hck : ((s[k].toNat : Nat) : Int) = y := by rw [hch]; exact Hy.out
        obtain ⟨g1, g2, g3⟩ := g1
        obtain ⟨hy1, hy2⟩ := hy0
        have F1 := Lib.hid fun w => figure_any (y / 16) (by omega) (by omega) w
        have F2 := Lib.hid fun w => figure_any (y % 16) (by omega) (by omega) w
        clear h1 h2 h3 hch
        rcases g4 with g4 | ⟨g4, g5⟩
        all_goals
          go_wp2_with fail
          refine (F1.out _).mono ?_
          rintro en w5 ⟨rfl, rfl⟩
          go_wp2_with fail
          refine (F2.out _).mono ?_
          rintro en w5 ⟨rfl, rfl⟩
          go_wp2_with (at_builtin; refine wpList_append_own _ rfl _ _ 48 rfl w.heap.size 5 i0 (.int .u8 0) 1 1 Tryz.underlying48 hi hz0 hz1 hz2 rfl (by decide) (.slice A n c) n _ rfl (ho.alloc _) ⟨wr.heap.size, 0, none⟩ 4 4 [.int .u8 92, .int .u8 120, .int .u8 (figI (y / 16)), .int .u8 (figI (y % 16))] rfl rfl (World.news_of_block (heap_alloc_new wr _)) (by intro u hu; simp at hu; rcases hu with rfl | rfl | rfl | rfl <;> rfl) (by unfold maxLen; omega) (by omega) (by simp; omega) ?_; intro v3 w3 ho3 hg3 _; obtain ⟨A3, c3, rfl⟩ := own_form ho3)
          go_roundw
          case rel => exact ⟨k + 1, A3, c3, n + 4, by omega, by go_num, rfl, (hbw.alloc hz _).grown hg3 (by simp; omega) (fun j hj => (ho.lt j hj).1), HE.out _ Hq.out _ _ _ ho3⟩
          case measure => simp [intOf]; omega
      · have Hq : Hid (Lib.byteCells (quoteByte ch) = [.int .u8 ch.toNat]) := Lib.hid (by rw [quoteByte, if_neg h1, if_neg h2, if_neg h3]; rfl)
        obtain ⟨y, Hy⟩ : ∃ y : Int, Hid ((ch.toNat : Int) = y) := ⟨_, Lib.hid rfl⟩
        have g4 : ¬ y < 32 ∧ ¬ 126 < y := by have := Hy.out; omega
        rw [Hy.out] at g1 Hq
        have hck : ((s[k].toNat : Nat) : Int) = y := by rw [hch]; exact Hy.out
        obtain ⟨g1, g2, g3⟩ := g1
        obtain ⟨g4, g5⟩ := g4
        clear h1 h2 h3 hch
        go_wp2_with (at_builtin; refine wpList_append_own _ rfl _ _ 48 rfl w.heap.size 5 i0 (.int .u8 0) 1 1 Tryz.underlying48 hi hz0 hz1 hz2 rfl (by decide) (.slice A n c) n _ rfl (ho.alloc _) ⟨wr.heap.size, 0, none⟩ 1 1 [.int .u8 y] rfl rfl (World.news_of_block (heap_alloc_new wr _)) (by intro u hu; simp at hu; subst hu; rfl) (by unfold maxLen; omega) (by omega) (by simp; omega) ?_; intro v3 w3 ho3 hg3 _; obtain ⟨A3, c3, rfl⟩ := own_form ho3)
        go_roundw
        case rel => exact ⟨k + 1, A3, c3, n + 1, by omega, by go_num, rfl, (hbw.alloc hz _).grown hg3 (by simp; omega) (fun j hj => (ho.lt j hj).1), HE.out _ Hq.out _ _ _ ho3⟩
        case measure => simp [intOf]; omega
    · have hfull : s.data.toList.take k = s.data.toList := List.take_of_length_le (by omega)
      rw [hfull] at ho
      have hB : Hid (Lib.byteCells (34 :: s.data.toList.flatMap quoteByte) ++ [.int .u8 34] = Lib.byteCells (quoteL s.data.toList)) := Lib.hid (by simp [quoteL, Lib.byteCells])
      obtain ⟨xs, hxs⟩ : ∃ xs, Lib.byteCells (34 :: s.data.toList.flatMap quoteByte) = xs := ⟨_, rfl⟩
      rw [hxs] at ho hB
      clear hfull hxs
      go_wp2_with (at_builtin; refine wpList_append_own _ rfl _ _ 48 rfl w.heap.size 5 i0 (.int .u8 0) 1 1 Tryz.underlying48 hi hz0 hz1 hz2 rfl (by decide) (.slice A n c) n _ rfl (ho.alloc _) ⟨wr.heap.size, 0, none⟩ 1 1 [.int .u8 34] rfl rfl (World.news_of_block (heap_alloc_new wr _)) (by intro u hu; simp at hu; subst hu; rfl) (by unfold maxLen; omega) (by omega) (by simp; omega) ?_; intro v3 w3 ho3 hg3 _; obtain ⟨A3, c3, rfl⟩ := own_form ho3; have hcv := conv_own ho3 hB.out)
      go_ret
      exact ⟨(hbw.alloc hz _).grown hg3 (by simp; omega) (fun j hj => (ho.lt j hj).1), rfl⟩
end Go.Proofs.YtoidecclimhgjaaGreatDoor
