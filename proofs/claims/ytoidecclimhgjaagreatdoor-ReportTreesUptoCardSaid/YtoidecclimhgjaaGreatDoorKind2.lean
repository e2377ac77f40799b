/- The kit's Rule; the law's as. -/
import Derived.Test.YtoidecclimhgjaaGreatDoorKind
namespace Go.Proofs.YtoidecclimhgjaaGreatDoor
open Go.RowKit

set_option maxHeartbeats 4000000 in
set_option maxRecDepth 100000 in
theorem krule_any (e : Nat → Addr) (v : Value) (r : Er) (w : World) (hE : GE w e) (hv : ErIs w e v r) (hp : r.plain = true) (ht : ETy w) :
    Calls Tryz.prog 25 #[v] w (RetV w (.int .i64 r.ru)) := by
  have b1 : Below w.heap.size w (w.alloc (.cells #[.pointer none] 94)) := (Below.refl _ _).alloc (Nat.le_refl _) _
  have hz := hE.size
  cases r with
  | ok =>
    obtain rfl : v = .nilIface := hv
    have H := Lib.hid fun t w => as_nil t w
    go_enter Tryz.func25, Tryz.ntmps25
    go_wp2_with fail
    refine (H.out _ _).mono ?_
    rintro en w2 ⟨rfl, rfl⟩
    go_wp2_with fail
    go_ret
    exact ⟨b1, rfl⟩
  | kind k =>
    obtain ⟨k1, k2, rfl⟩ := hv
    have H := Lib.hid (as_miss (e k) ⟨w.heap.size, 0, none⟩ _ (ht.below b1 (by omega)) (by simp; omega))
    clear hE ht
    go_enter Tryz.func25, Tryz.ntmps25
    go_wp2_with fail
    refine H.out.mono ?_
    rintro en w2 ⟨rfl, hb2⟩
    go_wp2_with fail
    go_ret
    exact ⟨b1.trans (hb2.mono (by simp)), rfl⟩
  | rule i k =>
    obtain ⟨k1, k2, b, rfl, hb, c0, c1⟩ := hv
    have H := Lib.hid (as_hit ⟨b, 0, none⟩ ⟨w.heap.size, 0, none⟩ (.pointer none) _ (ht.below b1 (by omega)) (by simp; omega) (by simp) (by simp) (by simp))
    clear hE ht
    go_enter Tryz.func25, Tryz.ntmps25
    go_wp2_with fail
    refine H.out.mono ?_
    rintro en w2 ⟨rfl, hw2⟩
    have hb2 : Below w.heap.size w w2 := by
      rw [hw2]
      exact (((((b1.alloc (by simp) _).alloc (by simp; omega) _).alloc (by simp; omega) _).alloc (by simp; omega) _).setCell (by simp) _)
    have q0 : w2.cell? ⟨w.heap.size, 0, none⟩ = some (.pointer (some ⟨b, 0, none⟩)) := by rw [hw2]; go_simp
    have q1 : w2.cell? ⟨b, 0, none⟩ = some (.int .i64 i) := (hb2.cell (p := ⟨b, 0, none⟩) hb).trans c0
    clear hw2
    go_wp2_with fail
    go_ret
    exact ⟨hb2, rfl⟩
  | place i k => cases hp
  | pair a b f s k => cases hp

/-- The law's as. -/
def asF (r : Er) (k ru : Int) : Bool := decide ((r.kd : Int) = k) && (decide (ru < 0) || decide (r.ru = ru))
set_option maxHeartbeats 2000000 in
theorem as_any (e : Nat → Addr) (v : Value) (r : Er) (k ru : Int) (w : World) (hE : GE w e) (hv : ErIs w e v r) (hp : r.plain = true) (ht : ETy w) (hk : (r.kd : Int) = k) (hr : ru < 0 ∨ r.ru = ru) :
    Calls Tryz.prog 8 #[v, .int .i64 k, .int .i64 ru] w (RetV w (.bool true)) := by
  have hz := hE.size
  have H1 := Lib.hid (kind_any e v r w hE hv hp)
  have H2 : Hid (∀ w', Below w.heap.size w w' → Calls Tryz.prog 25 #[v] w' (RetV w' (.int .i64 r.ru))) := Lib.hid fun w' hb => krule_any e v r w' (hE.below hb) (hv.below hb) hp (ht.below hb (by omega))
  rw [hk] at H1
  clear hk hv hE ht
  go_enter Tryz.func8, Tryz.ntmps8
  go_wp2_with fail
  refine H1.out.mono ?_
  rintro en w1 ⟨hb1, rfl⟩
  by_cases h0 : ru < 0
  · go_wp2_with fail
    go_ret
    exact ⟨hb1, rfl⟩
  · obtain rfl : r.ru = ru := by omega
    have H3 := Lib.hid (H2.out w1 hb1)
    generalize r.ru = q at *
    go_wp2_with fail
    refine H3.out.mono ?_
    rintro en w2 ⟨hb2, rfl⟩
    go_wp2_with fail
    go_ret
    exact ⟨hb1.trans (hb2.mono hb1.size), rfl⟩
end Go.Proofs.YtoidecclimhgjaaGreatDoor
