/- dovetailref29.number. -/
import Derived.Test.YtoidecclimhgjaaGreatDoorRef05c
import Derived.Lib.ItoaLen
namespace Go.Proofs.YtoidecclimhgjaaGreatDoor
open Go.RowKit

theorem conv_one (w : World) (g : Nat) (y : Int) (c : UInt8) (hy : y = c.toNat) (hc : w.cell? ⟨g, 0, none⟩ = some (.int .u8 y)) : (convert 48 9 (.slice (some ⟨g, 0, none⟩) 1 1)).run Tryz.prog w = .ok (.string ⟨#[c]⟩) w := by
  have := run_convert_bytes_back (P := Tryz.prog) w 48 9 5 ⟨g, 0, none⟩ 1 [c] Tryz.underlying48 Tryz.underlying5 Tryz.underlying9 (fun j hj => by
    obtain rfl : j = 0 := by simp at hj; omega
    simp only [List.getElem_cons_zero, ← hy]
    exact hc)
  exact this

set_option maxHeartbeats 2000000 in
set_option maxRecDepth 100000 in
theorem number_any (u : Nat) : ∀ (w : World), u ≤ 9223372036854775807 → Calls Tryz.prog 23 #[.int .i64 u] w (RetV w (.string ⟨(Lib.decDigits u).toArray⟩)) := by
  induction u using Nat.strongRecOn with
  | _ u ih =>
    intro w hu
    by_cases h : u < 10
    · have hD : Lib.decDigits u = [UInt8.ofNat (48 + u)] := by rw [Lib.decDigits, dif_pos h]
      rw [hD]
      obtain ⟨ch, hch⟩ : ∃ ch, UInt8.ofNat (48 + u) = ch := ⟨_, rfl⟩
      have hcv := conv_one (w.alloc (.cells #[.int .u8 (48 + u)] 5)) w.heap.size (48 + u) ch (by rw [← hch]; simp; omega) (by simp)
      rw [hch]
      have hw8 : IntKind.u8.wrap (48 + (u : Int)) = 48 + u := IntWalk.u8_in _ (by omega)
      clear hD ih hch
      go_enter Tryz.func23, Tryz.ntmps23
      go_wp2_with fail
      go_ret
      exact ⟨(Below.refl _ _).alloc (Nat.le_refl _) _, rfl⟩
    · have hD : Lib.decDigits u = Lib.decDigits (u / 10) ++ [UInt8.ofNat (48 + u % 10)] := by rw [Lib.decDigits, dif_neg h]
      have HI := Lib.hid fun w => ih (u / 10) (by omega) w (by omega)
      have HD := Lib.hid hD
      have hdl := Lib.nDigits_le20 (u / 10) (by omega)
      rw [← Lib.decDigits_length] at hdl
      have hcast : ((u / 10 : Nat) : Int) = (u : Int) / 10 := by omega
      rw [hcast] at HI
      have hw8 : IntKind.u8.wrap (48 + (u : Int) % 10) = 48 + (u : Int) % 10 := IntWalk.u8_in _ (by omega)
      obtain ⟨ch, hch⟩ : ∃ ch, UInt8.ofNat (48 + u % 10) = ch := ⟨_, rfl⟩
      have Hcv : Hid (∀ (W : World) (g : Nat), W.cell? ⟨g, 0, none⟩ = some (.int .u8 (48 + (u : Int) % 10)) → (convert 48 9 (.slice (some ⟨g, 0, none⟩) 1 1)).run Tryz.prog W = .ok (.string ⟨#[ch]⟩) W) := Lib.hid fun W g hc => conv_one W g _ _ (by rw [← hch]; simp; omega) hc
      rw [hch] at HD
      clear hD ih hcast hch
      obtain ⟨ds, Hds⟩ : ∃ ds, Hid (Lib.decDigits (u / 10) = ds) := ⟨_, Lib.hid rfl⟩
      rw [Hds.out] at HI hdl
      go_enter Tryz.func23, Tryz.ntmps23
      go_wp2_with fail
      have hw1 : IntKind.i64.wrap ((u : Int) / 10) = (u : Int) / 10 := IntWalk.i64_in _ (by omega)
      have hw2 : IntKind.i64.wrap (48 + (u : Int) % 10) = 48 + (u : Int) % 10 := IntWalk.i64_in _ (by omega)
      have hsz : ¬ 9223372036854775807 < ds.length + 1 := by omega
      have hmod : (u : Int).tmod 10 = (u : Int) % 10 := Int.tmod_eq_emod_of_nonneg (by omega)
      have hcv := Hcv.out
      go_region_with
        (first
          | (go_at_call 23; (with_reducible refine (HI.out _).mono ?_); rintro en w3 ⟨hb3, rfl⟩; have hk3 := fun (g : Nat) hg => hb3.cell (p := ⟨g, 0, none⟩) hg; have hz3 := hb3.size))
      all_goals
        go_wp2_with fail
        go_ret
        refine ⟨?_, by rw [HD.out, Hds.out]; exact ret_str (by apply ByteArray.ext; simp)⟩
        first
          | exact (Below.refl _ _).drew.trans hb3
          | exact ((Below.refl _ _).drew.trans hb3).alloc hz3 _
          | exact ((Below.refl _ _).drew.alloc (Nat.le_refl _) _).trans (hb3.mono (by simp))
end Go.Proofs.YtoidecclimhgjaaGreatDoor
