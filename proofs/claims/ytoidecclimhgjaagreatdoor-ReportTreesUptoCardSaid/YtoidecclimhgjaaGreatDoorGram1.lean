/- gram.nameFault, gram.names: are the names of a list right? -/
import Derived.Test.YtoidecclimhgjaaGreatDoorSlices1
namespace Go.Proofs.YtoidecclimhgjaaGreatDoor
open Go.RowKit

/-- Is the name at a place wrong: empty, too long, or one that stands ahead of it? -/
def nameBad (l : List ByteArray) (i : Nat) (s : ByteArray) : Prop := s.size = 0 ∨ 32 < s.size ∨ s ∈ l.take i
instance (l : List ByteArray) (i : Nat) (s : ByteArray) : Decidable (nameBad l i s) := by unfold nameBad; infer_instance

set_option maxHeartbeats 400000 in
theorem nameFault_any (A : Option Addr) (c : Nat) (l : List ByteArray) (i : Nat) (hi : i < l.length) (w : World) (B : Nat) (h : Row w B A (strs l)) (hl : l.length ≤ c) (hc : l.length ≤ 4611686018427387904) :
    Calls Tryz.prog 78 #[.slice A l.length c, .int .i64 i] w (Quiet w (.bool (decide (nameBad l i l[i])))) := by
  obtain ⟨b, o, rfl, hb, hcell⟩ := h.at_ (k := i) (by simpa [strs] using hi)
  have hck : w.cell? ⟨b, o + i, none⟩ = some (.string l[i]) := by rw [hcell i (by simpa [strs] using hi)]; simp [strs]
  have hrow : Row w B (some ⟨b, o, none⟩) (strs (l.take i)) := fun _ => ⟨b, o, rfl, hb, fun j u hu => by
    have : (strs l)[j]? = some u := by simp only [strs, List.map_take, List.getElem?_take] at hu ⊢; split at hu <;> simp_all
    rw [List.getElem?_eq_some_iff] at this; obtain ⟨hj, rfl⟩ := this; exact hcell j hj⟩
  clear hcell
  by_cases h0 : l[i].size = 0
  · go_enter Tryz.func78, Tryz.ntmps78
    go_wp2_with fail
    go_ret
    exact ⟨ret_bool (by simp [nameBad, h0]), 0, rfl⟩
  by_cases h1 : 32 < l[i].size
  · go_enter Tryz.func78, Tryz.ntmps78
    go_wp2_with fail
    go_ret
    exact ⟨ret_bool (by simp [nameBad, h1]), 0, rfl⟩
  · have hlen : (l.take i).length = i := by simp; omega
    have hcon := fun n => quiet_at (n := n) (con_str (some ⟨b, o, none⟩) c (l.take i) l[i] (w.drewN n) B hrow.drewN (by omega))
    rw [hlen] at hcon
    have H := Lib.hid hcon
    clear hcon hlen
    have hic : i ≤ c := by omega
    go_enter Tryz.func78, Tryz.ntmps78
    go_wp2_with fail
    go_quiet ((go_at_call 93; exact H.out _))
    by_cases h2 : l[i] ∈ l.take i
    · go_wp2_with fail
      go_ret
      exact ⟨ret_bool (by simp [nameBad, h2]), _, rfl⟩
    · go_wp2_with fail
      go_ret
      exact ⟨ret_bool (by simp [nameBad, h0, h1, h2]), _, rfl⟩

/-- Are all names of a list right? -/
def namesOk (l : List ByteArray) : Prop := ∀ i (h : i < l.length), ¬ nameBad l i l[i]
instance (l : List ByteArray) : Decidable (namesOk l) := by unfold namesOk; infer_instance

set_option maxHeartbeats 400000 in
theorem names_any (A : Option Addr) (c : Nat) (l : List ByteArray) (w : World) (B : Nat) (h : Row w B A (strs l)) (hl : l.length ≤ c) (hc : l.length ≤ 4611686018427387904) :
    Calls Tryz.prog 51 #[.slice A l.length c] w (Quiet w (.bool (decide (namesOk l)))) := by
  go_enter Tryz.func51, Tryz.ntmps51
  go_wp2
  go_loopw [6] (fun i wr => ∃ k n : Nat, k ≤ l.length ∧ i = .int .i64 k ∧ wr = w.drewN n ∧ ∀ i (h : i < l.length), i < k → ¬ nameBad l i l[i]) (fun i _ => l.length - (intOf i).toNat)
  case atStart => exact ⟨0, 0, Nat.zero_le _, rfl, rfl, fun i _ h => absurd h (by omega)⟩
  case round =>
    obtain ⟨k, n, hk, rfl, rfl, hi⟩ := hrel
    have Hi := Lib.hid hi
    clear hi
    by_cases hlt : k < l.length
    · have hn := nameFault_any A c l k hlt (w.drewN n) B h hl hc
      have H := Lib.hid hn
      clear hn
      go_wp2_with fail
      refine H.out.mono ?_
      rintro e w' ⟨rfl, m, rfl⟩
      by_cases hb : nameBad l k l[k]
      · go_wp2
        go_ret
        exact ⟨ret_bool (decide_eq_false fun h => h k hlt hb).symm, _, rfl⟩
      · go_wp2
        go_roundw
        case rel => exact ⟨k + 1, _, by omega, by go_num, rfl, fun i h hik => by
          by_cases e : i = k
          · subst e; exact hb
          · exact Hi.out i h (by omega)⟩
        case measure => simp [intOf]; omega
    · go_wp2
      go_ret
      exact ⟨ret_bool (decide_eq_true fun i h => Hi.out i h (by omega)).symm, _, rfl⟩
end Go.Proofs.YtoidecclimhgjaaGreatDoor
