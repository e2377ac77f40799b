/- slices.IndexFunc, slices.ContainsFunc over ints, at a predicate that only reads. -/
import Derived.Test.YtoidecclimhgjaaGreatDoorSlices1
namespace Go.Proofs.YtoidecclimhgjaaGreatDoor
open Go.RowKit

/-- The place of the first of a list of which p holds; -1: none. -/
def idxBy {α : Type} (p : α → Bool) (l : List α) : Int := match l.findIdx? p with | some k => (k : Int) | none => -1
theorem idxBy_hit {α : Type} {p : α → Bool} {l : List α} {k : Nat} (hk : k < l.length) (h0 : ∀ x ∈ l.take k, p x = false) (h : p l[k] = true) : idxBy p l = k := by
  have : l.findIdx? p = some k := by
    rw [List.findIdx?_eq_some_iff_getElem]
    refine ⟨hk, h, fun j hj => ?_⟩
    simp [h0 l[j] (List.mem_take_iff_getElem.2 ⟨j, by omega, rfl⟩)]
  simp [idxBy, this]
theorem idxBy_miss {α : Type} {p : α → Bool} {l : List α} (h0 : ∀ x ∈ l, p x = false) : idxBy p l = -1 := by
  have : l.findIdx? p = none := by rw [List.findIdx?_eq_none_iff]; intro x hx; simp [h0 x hx]
  simp [idxBy, this]
theorem idxBy_nonneg {α : Type} (p : α → Bool) (l : List α) : 0 ≤ idxBy p l ↔ l.any p = true := by
  unfold idxBy
  split
  · rename_i k hk; rw [List.findIdx?_eq_some_iff_getElem] at hk; obtain ⟨h, h1, _⟩ := hk
    simp only [List.any_eq_true]; exact ⟨fun _ => ⟨_, List.getElem_mem h, h1⟩, fun _ => by omega⟩
  · rename_i hn; rw [List.findIdx?_eq_none_iff] at hn
    constructor
    · intro h; omega
    · intro h; rw [List.any_eq_true] at h; obtain ⟨x, hx, hp⟩ := h; rw [hn x hx] at hp; cases hp

/-- The function value fn with what it captured answers p, in whatever draws of the world w. -/
def PredI (P : Program) (w : World) (fn : FuncId) (cv : Value) (l : List Int) (p : Int → Bool) : Prop :=
  ∀ x ∈ l, ∀ n, Calls P fn #[.int .i64 x, cv] (w.drewN n) (Quiet (w.drewN n) (.bool (p x)))

set_option maxHeartbeats 400000 in
theorem idxF_int (A : Option Addr) (c : Nat) (l : List Int) (fn : FuncId) (cv : Value) (p : Int → Bool) (w : World) (B : Nat) (h : Row w B A (nums l)) (hl : l.length ≤ 4611686018427387904) (hen : Enters Tryz.prog fn) (hp : PredI Tryz.prog w fn cv l p) :
    Calls Tryz.prog 94 #[.slice A l.length c, .func (.func fn) #[] #[cv]] w (Quiet w (.int .i64 (idxBy p l))) := by
  have Hp := Lib.hid hp
  have eg : ∀ args w, (callFunc fn args).run Tryz.prog w = .ok (.enter fn args) w := hen
  clear hp hen
  go_enter Tryz.func94, Tryz.ntmps94
  go_wp2
  go_loopw [8] (fun i wr => ∃ k n : Nat, k ≤ l.length ∧ i = .int .i64 k ∧ wr = w.drewN n ∧ ∀ x ∈ l.take k, p x = false) (fun i _ => l.length - (intOf i).toNat)
  case atStart => exact ⟨0, 0, Nat.zero_le _, rfl, rfl, by simp⟩
  case round =>
    obtain ⟨k, n, hk, rfl, rfl, hi⟩ := hrel
    have Hi := Lib.hid hi
    clear hi
    by_cases hlt : k < l.length
    · obtain ⟨b, o, rfl, hb, hc⟩ := h.at_ (k := k) (by simpa [nums] using hlt)
      have hck : w.cell? ⟨b, o + k, none⟩ = some (.int .i64 l[k]) := by rw [hc k (by simpa [nums] using hlt)]; simp [nums]
      clear hc
      go_wp2_with fail
      refine (Hp.out _ (List.getElem_mem hlt) n).mono ?_
      rintro e w' ⟨rfl, m, rfl⟩
      cases hv : p l[k] with
      | true =>
        have Hv := Lib.hid hv
        clear hv
        go_wp2_with fail
        go_ret
        exact ⟨by rw [idxBy_hit hlt Hi.out Hv.out]; rfl, _, rfl⟩
      | false =>
        have Hv := Lib.hid hv
        clear hv
        go_wp2_with fail
        go_roundw
        case rel => exact ⟨k + 1, _, by omega, by go_num, rfl, fun x hx => ((take_succ_mem hlt x).1 hx).elim (Hi.out x) (fun e => e ▸ Hv.out)⟩
        case measure => simp [intOf]; omega
    · have Hi2 := Hi.out
      rw [List.take_of_length_le (by omega)] at Hi2
      have Hi3 := Lib.hid Hi2
      clear Hi2
      go_wp2_with fail
      go_ret
      exact ⟨by rw [idxBy_miss Hi3.out]; rfl, _, rfl⟩

set_option maxHeartbeats 400000 in
theorem conF_int (A : Option Addr) (c : Nat) (l : List Int) (fn : FuncId) (cv : Value) (p : Int → Bool) (w : World) (B : Nat) (h : Row w B A (nums l)) (hl : l.length ≤ 4611686018427387904) (hen : Enters Tryz.prog fn) (hp : PredI Tryz.prog w fn cv l p) :
    Calls Tryz.prog 79 #[.slice A l.length c, .func (.func fn) #[] #[cv]] w (Quiet w (.bool (l.any p))) := by
  have H := Lib.hid (idxF_int A c l fn cv p w B h hl hen hp)
  clear hp
  go_enter Tryz.func79, Tryz.ntmps79
  go_wp2_with fail
  refine H.out.mono ?_
  rintro e w' ⟨rfl, m, rfl⟩
  go_wp2
  go_ret
  exact ⟨ret_bool (by rw [Bool.eq_iff_iff, ← idxBy_nonneg]; simp), m, rfl⟩
end Go.Proofs.YtoidecclimhgjaaGreatDoor
