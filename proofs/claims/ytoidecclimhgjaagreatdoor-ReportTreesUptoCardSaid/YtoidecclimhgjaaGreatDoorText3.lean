/- words.Quote. -/
import Derived.Test.YtoidecclimhgjaaGreatDoorText2
import Derived.Test.YtoidecclimhgjaaGreatDoorBuilder
namespace Go.Proofs.YtoidecclimhgjaaGreatDoor
open Go.RowKit

def hexOf (n : Nat) : UInt8 := if n < 10 then UInt8.ofNat (48 + n) else UInt8.ofNat (55 + n)
def quoteByte (c : UInt8) : List UInt8 :=
  if c = 34 ∨ c = 92 then [92, c] else if c = 10 then [92, 110] else if c.toNat < 32 ∨ 126 < c.toNat then [92, 120, hexOf (c.toNat / 16), hexOf (c.toNat % 16)] else [c]
def quoteL (l : List UInt8) : List UInt8 := 34 :: l.flatMap quoteByte ++ [34]
theorem quoteByte_le (c : UInt8) : (quoteByte c).length ≤ 4 := by
  unfold quoteByte
  repeat' split
  all_goals simp
theorem flat_le (l : List UInt8) : (l.flatMap quoteByte).length ≤ 4 * l.length := by
  induction l with
  | nil => simp
  | cons c l ih => have := quoteByte_le c; simp only [List.flatMap_cons, List.length_append, List.length_cons]; omega
theorem quote_step (l : List UInt8) (k : Nat) (hk : k < l.length) : (34 :: (l.take (k+1)).flatMap quoteByte) = (34 :: (l.take k).flatMap quoteByte) ++ quoteByte l[k] := by
  rw [List.take_succ_eq_append_getElem hk, List.flatMap_append]; simp

theorem hex_two : ∀ n : Fin 256, (⟨#[92, 120]⟩ ++ (⟨#[48, 49, 50, 51, 52, 53, 54, 55, 56, 57, 65, 66, 67, 68, 69, 70]⟩ : ByteArray).extract ((n.val : Int) / 16).toNat ((n.val : Int) / 16 + 1).toNat ++ (⟨#[48, 49, 50, 51, 52, 53, 54, 55, 56, 57, 65, 66, 67, 68, 69, 70]⟩ : ByteArray).extract ((n.val : Int) % 16).toNat ((n.val : Int) % 16 + 1).toNat : ByteArray).data.toList = [92, 120, hexOf (n.val / 16), hexOf (n.val % 16)] := by decide +kernel
theorem and15 : ∀ n : Fin 256, bits BinOp.and IntKind.u8 (n.val : Int) 15 = (n.val : Int) % 16 := by decide +kernel

set_option maxHeartbeats 4000000 in
set_option maxRecDepth 100000 in
theorem quote_any (s : ByteArray) (hs : s.size ≤ 1099511627776) (w : World) :
    Calls Tryz.prog 55 #[.string s] w (RetV w (.string ⟨(quoteL s.data.toList).toArray⟩)) := by
  have hl : s.data.toList.length = s.size := rfl
  have B0 := Bld.fresh w 50 []
  have H1 := Lib.hid (writeByte_any 50 [] bt_builder _ _ [] 34 _ B0 (by simp) (by simp))
  have hbw0 : Below w.heap.size w (w.alloc (.cells #[.pointer none, .slice none 0 0] 50)) := (Below.refl _ _).alloc (Nat.le_refl _) _
  go_enter Tryz.func55, Tryz.ntmps55
  go_wp2_with fail
  refine H1.out.mono ?_
  rintro en w1 ⟨rfl, hb1, hB1⟩
  have hbw1 := hbw0.trans hb1
  clear H1 B0 hb1 hbw0
  go_wp2_with fail
  go_loopw [9] (fun i wr => ∃ k : Nat, k ≤ s.size ∧ i = .int .i64 k ∧ Below w.heap.size w wr ∧ Bld wr w.heap.size w.heap.size 50 [] (34 :: (s.data.toList.take k).flatMap quoteByte)) (fun i _ => s.size - (intOf i).toNat)
  case atStart => exact ⟨0, Nat.zero_le _, rfl, hbw1, hB1⟩
  case round =>
    obtain ⟨k, hk, rfl, hbw, hB⟩ := hrel
    clear hB1 hbw1
    have hlen : (34 :: (s.data.toList.take k).flatMap quoteByte).length ≤ 4398046511105 := by
      have := flat_le (s.data.toList.take k); simp only [List.length_cons, List.length_take] at this ⊢; omega
    by_cases hlt : k < s.size
    · have hstep := Lib.hid (quote_step s.data.toList k hlt)
      have hsk : s.data.toList[k] = s[k] := rfl
      rw [hsk] at hstep
      generalize (34 :: (s.data.toList.take k).flatMap quoteByte) = bs at *
      obtain ⟨c, hc⟩ : ∃ c, s[k] = c := ⟨_, rfl⟩
      rw [hc] at hstep
      have hWS := fun t ht => writeString_any 50 [] bt_builder _ _ bs t _ hB ht hbw.size
      have HWS := Lib.hid hWS
      have HWB := Lib.hid (writeByte_any 50 [] bt_builder _ _ bs c _ hB (by omega) hbw.size)
      clear hWS
      have hx : (⟨#[92]⟩ ++ s.extract k (k + 1) : ByteArray).data.toList = [92, c] := by
        rw [ByteArray.data_append, ByteArray.data_extract, Array.toList_append, Array.toList_extract, List.extract_eq_take_drop, List.drop_eq_getElem_cons hlt, hsk, hc]
        simp
      have hxs : (⟨#[92]⟩ ++ s.extract k (k + 1) : ByteArray).size = 2 := congrArg List.length hx
      by_cases h1 : c = 34
      · have Hq : Hid (quoteByte c = [92, c]) := Lib.hid (by rw [quoteByte, if_pos (.inl h1)])
        have g1 : ((c.toNat : Int) == 34) = true := by rw [h1]; rfl
        have hW := HWS.out (⟨#[92]⟩ ++ s.extract k (k + 1)) (by rw [hxs]; omega)
        rw [hx] at hW
        have H := Lib.hid hW
        clear hW hx hxs HWS HWB h1
        go_wp2_with fail
        refine H.out.mono ?_
        rintro en w2 ⟨rfl, hb2, hB2⟩
        go_wp2_with fail
        go_roundw
        case rel => exact ⟨k + 1, by omega, by go_num, hbw.trans hb2, by rw [hstep.out, Hq.out]; exact hB2⟩
        case measure => simp [intOf]; omega
      by_cases h2 : c = 92
      · have Hq : Hid (quoteByte c = [92, c]) := Lib.hid (by rw [quoteByte, if_pos (.inr h2)])
        have g1 : ((c.toNat : Int) == 34) = false := by rw [h2]; rfl
        have g2 : ((c.toNat : Int) == 92) = true := by rw [h2]; rfl
        have hW := HWS.out (⟨#[92]⟩ ++ s.extract k (k + 1)) (by rw [hxs]; omega)
        rw [hx] at hW
        have H := Lib.hid hW
        clear hW hx hxs HWS HWB h1 h2
        go_wp2_with fail
        refine H.out.mono ?_
        rintro en w2 ⟨rfl, hb2, hB2⟩
        go_wp2_with fail
        go_roundw
        case rel => exact ⟨k + 1, by omega, by go_num, hbw.trans hb2, by rw [hstep.out, Hq.out]; exact hB2⟩
        case measure => simp [intOf]; omega
      clear hx hxs
      have g1 : ((c.toNat : Int) == 34) = false := by rw [← UInt8.toNat_inj] at h1; simp at h1 ⊢; omega
      have g2 : ((c.toNat : Int) == 92) = false := by rw [← UInt8.toNat_inj] at h2; simp at h2 ⊢; omega
      have Hq1 : Hid (quoteByte c = if c = 10 then [92, 110] else if c.toNat < 32 ∨ 126 < c.toNat then [92, 120, hexOf (c.toNat / 16), hexOf (c.toNat % 16)] else [c]) := Lib.hid (by rw [quoteByte, if_neg (by simp [h1, h2])])
      clear h1 h2
      by_cases h3 : c = 10
      · have Hq : Hid (quoteByte c = [92, 110]) := Lib.hid (by rw [Hq1.out, if_pos h3])
        have g3 : ((c.toNat : Int) == 10) = true := by rw [h3]; rfl
        have H := Lib.hid (HWS.out ⟨#[92, 110]⟩ (by show _ + 2 ≤ _; omega))
        clear HWS HWB h3 Hq1
        go_wp2_with fail
        refine H.out.mono ?_
        rintro en w2 ⟨rfl, hb2, hB2⟩
        go_wp2_with fail
        go_roundw
        case rel => exact ⟨k + 1, by omega, by go_num, hbw.trans hb2, by rw [hstep.out, Hq.out]; exact hB2⟩
        case measure => simp [intOf]; omega
      have g3 : ((c.toNat : Int) == 10) = false := by rw [← UInt8.toNat_inj] at h3; simp at h3 ⊢; omega
      by_cases h4 : c.toNat < 32 ∨ 126 < c.toNat
      · have HX := Lib.hid fun n t ht => writeString_any 50 [] bt_builder _ _ bs t (wr.drewN n) (hB.below (below_dN (Below.refl _ _) n) (Nat.le_refl _)) ht hbw.size
        have Hq : Hid (quoteByte c = [92, 120, hexOf (c.toNat / 16), hexOf (c.toNat % 16)]) := Lib.hid (by rw [Hq1.out, if_neg h3, if_pos h4])
        clear HWS HWB h3 Hq1
        have c1 : (c.toNat : Int) < 256 := by have := c.toNat_lt; omega
        have sz : (⟨#[48, 49, 50, 51, 52, 53, 54, 55, 56, 57, 65, 66, 67, 68, 69, 70]⟩ : ByteArray).size = 16 := rfl
        have d1 : (0 : Int) ≤ c.toNat / 16 := by omega
        have d2 : ((c.toNat : Int) / 16 + 1) ≤ 16 := by omega
        have d3 : IntKind.u8.wrap ((c.toNat : Int) / 16 + 1) = (c.toNat : Int) / 16 + 1 := by simp [IntKind.wrap, IntKind.signed, IntKind.bits]; omega
        have d5 : ¬ (9223372036854775807 < 2 + (((c.toNat : Int) / 16 + 1).toNat - ((c.toNat : Int) / 16).toNat)) := by omega
        have e0 : bits BinOp.and IntKind.u8 (c.toNat : Int) 15 = (c.toNat : Int) % 16 := and15 ⟨c.toNat, c.toNat_lt⟩
        have e1 : IntKind.u8.wrap ((c.toNat : Int) % 16 + 1) = (c.toNat : Int) % 16 + 1 := by simp [IntKind.wrap, IntKind.signed, IntKind.bits]; omega
        have e2 : (c.toNat : Int) % 16 + 1 ≤ 16 := by omega
        have e3 : (0 : Int) ≤ (c.toNat : Int) % 16 := by omega
        have e4 : (c.toNat : Int) % 16 ≤ (c.toNat : Int) % 16 + 1 := by omega
        have e5 : ¬ (9223372036854775807 < 2 + (((c.toNat : Int) / 16 + 1).toNat - ((c.toNat : Int) / 16).toNat) + (((c.toNat : Int) % 16 + 1).toNat - ((c.toNat : Int) % 16).toNat)) := by omega
        have d4 : (c.toNat : Int) / 16 ≤ (c.toNat : Int) / 16 + 1 := by omega
        have ht := hex_two ⟨c.toNat, c.toNat_lt⟩
        simp only at ht
        have hts := congrArg List.length ht
        simp only [Array.length_toList, List.length_cons, List.length_nil] at hts
        change ByteArray.size _ = _ at hts
        by_cases h5 : (c.toNat : Int) < 32
        · go_wp2_with fail
          go_region_with (go_at_call 34; refine (HX.out _ _ (by rw [hts]; omega)).mono ?_; rintro en w2 ⟨rfl, hb2, hB2⟩)
          all_goals
            rw [ht] at hB2
            have hbz : Below w.heap.size w w2 := hbw.trans ((below_dN (Below.refl _ wr) _).trans hb2)
            go_wp2_with fail
            go_roundw
            case rel => exact ⟨k + 1, by omega, by go_num, hbz, by rw [hstep.out, Hq.out]; exact hB2⟩
            case measure => simp [intOf]; omega
        · go_wp2_with fail
          go_region_with (go_at_call 34; refine (HX.out _ _ (by rw [hts]; omega)).mono ?_; rintro en w2 ⟨rfl, hb2, hB2⟩)
          all_goals
            rw [ht] at hB2
            have hbz : Below w.heap.size w w2 := hbw.trans ((below_dN (Below.refl _ wr) _).trans hb2)
            go_wp2_with fail
            go_roundw
            case rel => exact ⟨k + 1, by omega, by go_num, hbz, by rw [hstep.out, Hq.out]; exact hB2⟩
            case measure => simp [intOf]; omega
      · have Hq : Hid (quoteByte c = [c]) := Lib.hid (by rw [Hq1.out, if_neg h3, if_neg h4])
        have g4 : ¬ ((c.toNat : Int) < 32) := by omega
        have g5 : ¬ ((126 : Int) < c.toNat) := by omega
        have H := HWB
        clear HWS HWB h3 h4 Hq1
        go_wp2_with fail
        refine H.out.mono ?_
        rintro en w2 ⟨rfl, hb2, hB2⟩
        go_wp2_with fail
        go_roundw
        case rel => exact ⟨k + 1, by omega, by go_num, hbw.trans hb2, by rw [hstep.out, Hq.out]; exact hB2⟩
        case measure => simp [intOf]; omega
    · have hks : k = s.size := by omega
      have ht : s.data.toList.take k = s.data.toList := List.take_of_length_le (by omega)
      rw [ht] at hB hlen
      have H := Lib.hid (writeByte_any 50 [] bt_builder _ _ _ 34 _ hB (by omega) hbw.size)
      go_wp2_with fail
      refine H.out.mono ?_
      rintro en w2 ⟨rfl, hb2, hB2⟩
      have H2 := Lib.hid (builderString_any 50 [] _ _ _ _ hB2 (by simp))
      have hbz := hbw.trans hb2
      clear H hb2 hB2
      go_wp2_with fail
      refine H2.out.mono ?_
      rintro en w3 ⟨rfl, hb3⟩
      go_wp2_with fail
      go_ret
      exact ⟨hbz.trans hb3, rfl⟩
end Go.Proofs.YtoidecclimhgjaaGreatDoor
