/- words.plain, words.Plain, show.free; gram.Name, gram.find, gram.Nonterm. -/
import Derived.Test.YtoidecclimhgjaaGreatDoorGram3
namespace Go.Proofs.YtoidecclimhgjaaGreatDoor
open Go.RowKit

def plainB (c : UInt8) : Bool := decide (32 < c.toNat) && decide (c.toNat < 127) && decide (c.toNat ≠ 34)
set_option maxHeartbeats 400000 in
theorem plain_1 (c : UInt8) (w : World) : Calls Tryz.prog 95 #[.int .u8 c.toNat] w (Quiet w (.bool (plainB c))) := by
  obtain ⟨y, Hy⟩ : ∃ y : Int, Hid ((c.toNat : Int) = y) := ⟨_, Lib.hid rfl⟩
  rw [Hy.out]
  have HF : Hid (plainB c = (decide (32 < y) && decide (y < 127) && decide (y ≠ 34))) := by
    show _ = _
    rw [plainB, ← Hy.out, dec_eq (p := 32 < c.toNat) (q := (32:Int) < c.toNat) (by omega), dec_eq (p := c.toNat < 127) (q := (c.toNat:Int) < 127) (by omega), dec_eq (p := c.toNat ≠ 34) (q := (c.toNat:Int) ≠ 34) (by omega)]
  rw [HF.out]
  by_cases h1 : 32 < y
  · by_cases h2 : y < 127
    · by_cases h3 : y = 34
      · go_enter Tryz.func95, Tryz.ntmps95
        go_wp2
        go_ret
        exact ⟨ret_bool (by simp <;> omega), 0, rfl⟩
      · go_enter Tryz.func95, Tryz.ntmps95
        go_wp2
        go_ret
        exact ⟨ret_bool (by simp [h1, h2, h3]), 0, rfl⟩
    · go_enter Tryz.func95, Tryz.ntmps95
      go_wp2
      go_ret
      exact ⟨ret_bool (by simp <;> omega), 0, rfl⟩
  · go_enter Tryz.func95, Tryz.ntmps95
    go_wp2
    go_ret
    exact ⟨ret_bool (by simp <;> omega), 0, rfl⟩

set_option maxHeartbeats 1000000 in
theorem find_any (A : Option Addr) (c : Nat) (l : List ByteArray) (v : ByteArray) (w : World) (B : Nat) (h : Row w B A (strs l)) (hl : l.length ≤ 4611686018427387904) :
    Calls Tryz.prog 82 #[.slice A l.length c, .string v] w (Quiet w (.tuple #[.int .i64 (max (idxOf v l) 0), .bool (decide (v ∈ l))])) := by
  have H := Lib.hid (idx_str A c l v w B h hl)
  have Hd : Hid (decide (v ∈ l) = decide (0 ≤ idxOf v l)) := Lib.hid (dec_eq (idxOf_nonneg v l).symm)
  rw [Hd.out]
  clear h
  generalize idxOf v l = q at *
  by_cases hq : q < 0
  · rw [show max q 0 = 0 by omega]
    go_enter Tryz.func82, Tryz.ntmps82
    go_wp2_with fail
    refine H.out.mono ?_
    rintro en w1 ⟨rfl, m, rfl⟩
    go_wp2_with fail
    go_ret2
    exact ⟨rfl, _, rfl⟩
  · rw [show max q 0 = q by omega, decide_eq_true (show 0 ≤ q by omega)]
    go_enter Tryz.func82, Tryz.ntmps82
    go_wp2_with fail
    refine H.out.mono ?_
    rintro en w1 ⟨rfl, m, rfl⟩
    go_wp2_with fail
    go_ret2
    exact ⟨rfl, _, rfl⟩

theorem nonterm_any (g : GV) (v : ByteArray) (w : World) (B : Nat) (hg : g.In w B) (hB : B ≤ w.heap.size) :
    Calls Tryz.prog 56 #[g.val, .string v] w (RetV w (.tuple #[.int .i64 (max (idxOf v g.N) 0), .bool (decide (v ∈ g.N))])) := by
  obtain ⟨T, AT, cT, N, AN, cN, ax, R, AR, cR⟩ := g
  have bw : Below w.heap.size w (w.alloc (.cells #[.slice AT T.length cT, .slice AN N.length cN, .int .i64 ax, .slice AR R.length cR] 25)) := (Below.refl _ _).alloc (Nat.le_refl _) _
  have h := find_any AN cN N v _ w.heap.size ((hg.more hB).below bw).n (by have := hg.nc; simp only at this; omega)
  have H := Lib.hid h
  simp only [GV.val] at *
  clear h hg
  go_enter Tryz.func56, Tryz.ntmps56
  go_wp2_with fail
  refine H.out.mono ?_
  rintro en w1 ⟨rfl, m, rfl⟩
  go_wp2_with fail
  go_ret2
  exact ⟨below_dN bw _, rfl⟩

/-- A symbol's name; none: there is no such symbol. -/
def nameOf (T N : List ByteArray) (s : Int) : Option ByteArray := if s < 0 then N[(-1 - s).toNat]? else T[s.toNat]?

set_option maxHeartbeats 1000000 in
theorem name_any (g : GV) (s : Int) (hs : -9223372036854775808 ≤ s ∧ s < 9223372036854775808) (w : World) (B : Nat) (hg : g.In w B) (hB : B ≤ w.heap.size) :
    Calls Tryz.prog 53 #[g.val, .int .i64 s] w (RetV w (.tuple #[.string ((nameOf g.T g.N s).getD ⟨#[]⟩), .bool (nameOf g.T g.N s).isSome])) := by
  obtain ⟨T, AT, cT, N, AN, cN, ax, R, AR, cR⟩ := g
  have bw : Below w.heap.size w (w.alloc (.cells #[.slice AT T.length cT, .slice AN N.length cN, .int .i64 ax, .slice AR R.length cR] 25)) := (Below.refl _ _).alloc (Nat.le_refl _) _
  have ht := ((hg.more hB).below bw).t
  have hn := ((hg.more hB).below bw).n
  have htc := hg.tc
  have hnc := hg.nc
  simp only [GV.val] at *
  clear hg
  by_cases h0 : s < 0
  · obtain ⟨k, hk0⟩ : ∃ k : Nat, (-1 - s).toNat = k := ⟨_, rfl⟩
    have HF : Hid (nameOf T N s = N[k]?) := by
      show _ = _
      rw [nameOf, if_pos h0, hk0]
    rw [HF.out]
    by_cases hk : k < N.length
    · obtain ⟨b, o, rfl, hb, hc⟩ := hn.at_ (k := k) (by simpa [strs] using hk)
      have hck : (w.alloc (.cells #[.slice AT T.length cT, .slice (some ⟨b, o, none⟩) N.length cN, .int .i64 ax, .slice AR R.length cR] 25)).cell? ⟨b, o + k, none⟩ = some (.string N[k]) := by rw [hc k (by simpa [strs] using hk)]; simp [strs]
      rw [List.getElem?_eq_getElem hk]
      clear hc ht hn HF
      go_enter Tryz.func53, Tryz.ntmps53
      go_wp2_with fail
      go_ret2
      exact ⟨bw, rfl⟩
    · rw [List.getElem?_eq_none (by omega)]
      clear ht hn HF
      go_enter Tryz.func53, Tryz.ntmps53
      go_wp2_with fail
      go_ret2
      exact ⟨bw, rfl⟩
  · obtain ⟨k, rfl⟩ : ∃ k : Nat, s = k := ⟨s.toNat, by omega⟩
    have HF : Hid (nameOf T N k = T[k]?) := by
      show _ = _
      rw [nameOf, if_neg h0]; simp
    rw [HF.out]
    by_cases hk : k < T.length
    · obtain ⟨b, o, rfl, hb, hc⟩ := ht.at_ (k := k) (by simpa [strs] using hk)
      have hck : (w.alloc (.cells #[.slice (some ⟨b, o, none⟩) T.length cT, .slice AN N.length cN, .int .i64 ax, .slice AR R.length cR] 25)).cell? ⟨b, o + k, none⟩ = some (.string T[k]) := by rw [hc k (by simpa [strs] using hk)]; simp [strs]
      rw [List.getElem?_eq_getElem hk]
      clear hc ht hn HF
      go_enter Tryz.func53, Tryz.ntmps53
      go_wp2_with fail
      go_ret2
      exact ⟨bw, rfl⟩
    · rw [List.getElem?_eq_none (by omega)]
      clear ht hn HF
      go_enter Tryz.func53, Tryz.ntmps53
      go_wp2_with fail
      go_ret2
      exact ⟨bw, rfl⟩
end Go.Proofs.YtoidecclimhgjaaGreatDoor
