/- deriv.known, deriv.Rules: a tree that is handed in. -/
import Derived.Test.YtoidecclimhgjaaGreatDoorSteps
namespace Go.Proofs.YtoidecclimhgjaaGreatDoor
open Go.RowKit

/-- What a grammar has of which nothing is wrong. -/
theorem rulesErr_ok {t n : Nat} {R : List (Int × List Int)} : ∀ {i : Nat}, rulesErr t n i R = .ok → ∀ r ∈ R, ruleErr t n r.1 r.2 = .ok := by
  induction R with
  | nil => intro i _ r hr; simp at hr
  | cons a R ih =>
    intro i h r hr
    simp only [rulesErr] at h
    rcases ruleErr_cases t n a.1 a.2 with h0 | h0 | h0
    · rw [h0] at h
      rcases List.mem_cons.1 hr with rfl | hr
      · exact h0
      · exact ih h r hr
    · rw [h0] at h; cases h
    · rw [h0] at h; cases h
theorem ruleErr_ok {t n : Nat} {l : Int} {r : List Int} (h : ruleErr t n l r = .ok) : r.length ≤ 32 ∧ 0 ≤ l ∧ l < n ∧ ∀ x ∈ r, -(n : Int) ≤ x ∧ x < t := by
  unfold ruleErr at h
  split at h
  · cases h
  split at h
  · cases h
  rename_i h1 h2
  simp only [not_or, List.any_eq_true, not_exists, not_and] at h2
  refine ⟨by omega, by omega, by omega, fun x hx => ?_⟩
  have := h2.2.2 x hx
  simp only [symBad, Bool.or_eq_true, decide_eq_true_eq, not_or] at this
  omega
structure CheckOk (T N : List ByteArray) (ax : Int) (R : List (Int × List Int)) : Prop where
  t : T.length ≤ 60
  tn : T.length + N.length ≤ 60
  r : R.length ≤ 120
  nt : namesOk T
  nn : namesOk N
  ax : 0 ≤ ax ∧ ax < N.length
  each : ∀ r ∈ R, r.2.length ≤ 32 ∧ 0 ≤ r.1 ∧ r.1 < N.length ∧ ∀ x ∈ r.2, -(N.length : Int) ≤ x ∧ x < T.length
theorem check_ok {T N : List ByteArray} {ax : Int} {R : List (Int × List Int)} (h : checkErr T N ax R = .ok) : CheckOk T N ax R := by
  unfold checkErr at h
  split at h
  · cases h
  split at h
  · cases h
  split at h
  · cases h
  rename_i h1 h2 h3
  simp only [not_or, Decidable.not_not] at h1 h2 h3
  exact ⟨by omega, by omega, by omega, h2.1, h2.2, by omega, fun r hr => ruleErr_ok (rulesErr_ok h r hr)⟩
theorem may_ok {T N : List ByteArray} {ax : Int} {R : List (Int × List Int)} {s : Int} (h : mayErr T N ax R s = .ok) : CheckOk T N ax R ∧ s ≤ 131072 ∧ ∀ r ∈ R, r.2.length ≠ 0 := by
  unfold mayErr at h
  split at h
  · rename_i h1; rw [h] at h1; exact absurd rfl h1
  split at h
  · cases h
  split at h
  · cases h
  rename_i h1 h2 h3
  refine ⟨check_ok (by simpa using h1), by omega, fun r hr h0 => h2 ((idxBy_nonneg _ R).2 ?_)⟩
  rw [List.any_eq_true]
  exact ⟨r, hr, by simpa using h0⟩

theorem walkF_fit {R : List (Int × List Int)} {ru : List Int} {nt f : Int} {any : Bool} {s : St} (h32 : ∀ r ∈ R, r.2.length ≤ 32) (h : walkF R ru nt f any = some s) : s.tree.length = ru.length ∧ s.at_ = ru.length ∧ s.toks.length ≤ 32 * ru.length := by
  unfold walkF at h
  rw [Option.bind_eq_some_iff] at h
  obtain ⟨s1, h1, h2⟩ := h
  split at h2
  · cases h2
  · cases h2
    obtain ⟨p1, p2, p3, p4⟩ := nodeF_fit R ru h32 _ _ _ _ _ _ h1 rfl
    simp at p4
    exact ⟨by omega, by omega, by omega⟩

/-- A tree that is handed in: the walk by it, or what is wrong. -/
def knownF (T N : List ByteArray) (ax : Int) (R : List (Int × List Int)) (tree : List (Int × Int × Int)) : Except Er St :=
  if mayErr T N ax R tree.length ≠ .ok then .error (mayErr T N ax R tree.length)
  else match tree with
    | [] => .error (.kind 11)
    | x :: _ => if x.2.1 < 0 ∨ x.2.2 < x.2.1 then .error (.kind 11)
      else match walkF R (tree.map (·.1)) 0 x.2.1 true with
        | none => .error (.kind 11)
        | some s => if s.tree = tree then .ok s else .error (.kind 11)

def KnownEnd (e : Nat → Addr) (G : GV) (ru : List Int) (w : World) (r : Except Er St) (en : Ending) (w' : World) : Prop :=
  Below w.heap.size w w' ∧ match r with
    | .ok s => ∃ g Ar cr B, en = .returned (.tuple #[.pointer (some ⟨g, 0, none⟩), .nilIface]) ∧ w.heap.size ≤ g ∧ w.heap.size ≤ B ∧ Wk w' B g G Ar cr ru s ∧ Row w' w'.heap.size Ar (nums ru) ∧ ru.length ≤ cr
    | .error er => ∃ v, en = .returned (.tuple #[.pointer none, v]) ∧ er ≠ .ok ∧ ErIs w' e v er

set_option maxHeartbeats 2000000 in
set_option maxRecDepth 100000 in
theorem known_any (e : Nat → Addr) (w : World) (hE : GE w e) (G : GV) (hG : G.In w w.heap.size) (A : Option Addr) (c : Nat) (tree : List (Int × Int × Int)) (hr : Row w w.heap.size A (stepCells tree)) (htl : tree.length ≤ c) (hc : tree.length ≤ 140737488355328) :
    Calls Tryz.prog 30 #[G.val, .slice A tree.length c] w (KnownEnd e G (tree.map (·.1)) w (knownF G.T G.N G.ax (G.R.map Rl.p) tree)) := by
  have bw : Below w.heap.size w (w.alloc (.cells G.cells 25)) := (Below.refl _ _).alloc (Nat.le_refl _) _
  have hm := may_any G tree.length e _ w.heap.size (hE.below bw) (hG.below bw) bw.size
  have Hm := Lib.hid hm
  clear hm
  have hlen : tree.length ≤ 140737488355328 := by omega
  go_enter Tryz.func30, Tryz.ntmps30
  go_wp2_with fail
  refine Hm.out.mono ?_
  rintro en w1 ⟨hb1, v, rfl, hv⟩
  have hbw1 : Below w.heap.size w w1 := bw.trans (hb1.mono bw.size)
  clear Hm
  rcases hv.form with ⟨hok, rfl⟩ | ⟨hok, t, x, rfl⟩
  · have Hok := Lib.hid hok
    obtain ⟨hck, hst, _⟩ := may_ok hok
    clear hok hv
    have hE1 := hE.below hbw1
    have hz1 := hE1.size
    have z0 : 0 < w1.heap.size := by omega
    have s11 : gno 11 < w1.heap.size := Nat.lt_of_lt_of_le (gno_lt 11) hE1.size
    have c11 := hE1.cell 11 (by omega) (by omega)
    simp only [gno] at s11 c11
    rcases tree with _ | ⟨x, tl⟩
    · simp only [List.length_nil] at *
      go_wp2_with fail
      go_quiet (fail)
      go_wp2_with fail
      go_quiet (fail)
      go_wp2_with fail
      go_ret2
      exact ⟨below_dN (below_dN hbw1 _) _, by unfold knownF; rw [if_neg (by simpa using Hok.out)]; exact ⟨_, rfl, by simp, by omega, by omega, rfl⟩⟩
    · obtain ⟨x0, x1, x2⟩ := x
      obtain ⟨b, o, rfl, hbb, y0, y1, y2⟩ := (hr.below hbw1).steps (k := 0) (by simp)
      simp only [List.getElem_cons_zero, Nat.zero_mul, Nat.add_zero] at y0 y1 y2
      have hpos : (((((x0, x1, x2) :: tl).length : Nat) : Int) == 0) = false := by simp; omega
      obtain ⟨T, hT⟩ : ∃ T, T = (x0, x1, x2) :: tl := ⟨_, rfl⟩
      rw [← hT] at htl hst hlen hpos hr ⊢
      obtain ⟨n, hn⟩ : ∃ n, n = T.length := ⟨_, rfl⟩
      have Hn := Lib.hid hn
      have hn0 : 0 < n := by rw [hn, hT]; simp
      rw [← hn] at htl hst hlen hpos ⊢
      have HT := Lib.hid hT
      clear hn hT
      by_cases hx1 : x1 < 0
      · go_wp2_with fail
        go_quiet (fail)
        go_wp2_with fail
        go_quiet (fail)
        go_wp2_with fail
        go_ret2
        exact ⟨below_dN (below_dN hbw1 _) _, by unfold knownF; rw [if_neg (by simpa using Hok.out)]; simp only [hx1, true_or, if_true]; exact ⟨_, rfl, by simp, by omega, by omega, rfl⟩⟩
      by_cases hx2 : x2 < x1
      · go_wp2_with fail
        go_quiet (fail)
        go_wp2_with fail
        go_quiet (fail)
        go_wp2_with fail
        go_ret2
        exact ⟨below_dN (below_dN hbw1 _) _, by unfold knownF; rw [if_neg (by simpa using Hok.out)]; simp only [hx2, or_true, if_true]; exact ⟨_, rfl, by simp, by omega, by omega, rfl⟩⟩
      · go_wp2_with fail
        go_quiet (fail)
        go_wp2_with fail
        obtain ⟨j0, hj0, hj1, hj2, hj3⟩ := info_parts Tryz.info3
        go_loopw [7, 43] (fun v i wr => ∃ (k : Nat) (A' : Option Addr) (c' : Nat), k ≤ n ∧ i = .int .i64 k ∧ v = .slice A' k c' ∧ wr.ownsRow w1.heap.size 3 1 (.slice A' k c') k (nums ((T.map (·.1)).take k)) ∧ Below w1.heap.size w1 wr) (fun _ i _ => n - (intOf i).toNat)
        case atStart => exact ⟨0, none, 0, Nat.zero_le _, rfl, rfl, World.ownsRow_nil _ _ _ _, below_dN (Below.refl _ _) _⟩
        case round =>
          obtain ⟨k, A', c', hk, rfl, rfl, hown, hbr⟩ := hrel
          by_cases hlt : k < n
          · have hltT : k < T.length := by have := Hn.out; omega
            obtain ⟨b2, o2, hA2, _, z0, z1, z2⟩ := ((hr.below hbw1).below (hbr.mono hbw1.size)).steps (k := k) hltT
            simp only [Option.some.injEq, Addr.mk.injEq, and_true] at hA2
            obtain ⟨rfl, rfl⟩ := hA2
            have hbase : w1.heap.size ≤ wr.heap.size := hbr.size
            have hnum : nums ((T.map (·.1)).take (k + 1)) = nums ((T.map (·.1)).take k) ++ [.int .i64 T[k].1] := by
              rw [List.take_succ_eq_append_getElem (by simpa using hltT)]; simp [nums]
            have Hnum := Lib.hid hnum
            clear hnum
            have Hnew : Hid (∀ o : Obj, ∀ (j : Nat) (u : Value), [Value.int .i64 T[k].1][j]? = some u → ((wr.alloc o).alloc (.cells #[.int .i64 T[k].1] 3)).cell? ((⟨wr.heap.size + 1, 0, none⟩ : Addr).add j) = some u) :=
              Lib.hid fun o => World.news_of_block (by simpa using heap_alloc_new (wr.alloc o) (.cells #[.int .i64 T[k].1] 3))
            go_wp2_with (at_builtin; refine wpList_append_own _ rfl _ _ 43 rfl w1.heap.size 3 j0 _ 1 8 Tryz.underlying43 hj0 hj1 hj2 hj3 rfl (by decide) (.slice A' k c') k _ rfl ((hown.alloc _).alloc _) ⟨wr.heap.size + 1, 0, none⟩ 1 1 [.int .i64 T[k].1] rfl rfl (Hnew.out _) (by intro u hu; simp at hu; subst hu; rfl) (by simp only [maxLen]; omega) (by omega) (by simp; omega) ?_; intro v3 w3 ho3 hg3 _; obtain ⟨A3, c3, rfl⟩ := own_form ho3)
            go_roundw
            case rel => exact ⟨k + 1, A3, c3, by omega, by go_num, rfl, by rw [Hnum.out]; exact ho3, ((hbr.alloc hbase _).alloc (by simp; omega) _).grown hg3 (by simp; omega) (fun j hj => (hown.lt j hj).1)⟩
            case measure => simp [intOf]; omega
          · obtain rfl : k = n := by omega
            have hrl : (T.map (·.1)).length = k := by rw [List.length_map]; exact Hn.out.symm
            rw [List.take_of_length_le (by omega)] at hown
            have hbwr : Below w.heap.size w wr := hbw1.trans (hbr.mono hbw1.size)
            have h1 : w.heap.size < w1.heap.size := by have := hb1.size; simp at this; omega
            have g0 : wr.cell? ⟨w.heap.size, 0, none⟩ = some (.slice G.AT G.T.length G.cT) := (hbr.cell h1).trans ((hb1.cell (by simp)).trans (by go_simp))
            have g1 : wr.cell? ⟨w.heap.size, 1, none⟩ = some (.slice G.AN G.N.length G.cN) := (hbr.cell h1).trans ((hb1.cell (by simp)).trans (by go_simp))
            have g2 : wr.cell? ⟨w.heap.size, 2, none⟩ = some (.int .i64 G.ax) := (hbr.cell h1).trans ((hb1.cell (by simp)).trans (by go_simp))
            have g3 : wr.cell? ⟨w.heap.size, 3, none⟩ = some (.slice G.AR G.R.length G.cR) := (hbr.cell h1).trans ((hb1.cell (by simp)).trans (by go_simp))
            have y1' : wr.cell? ⟨b, o + 1, none⟩ = some (.int .i64 x1) := (hbr.cell (by show b < _; omega)).trans y1
            have hwalk := fun q => walk_any e (wr.drewN q) ((hE.below hbwr).drewN q) G (((hG.below hbwr).more hbwr.size).below (below_dN (Below.refl _ _) q)) A' c' (T.map (·.1)) (own_row hown).drewN
              (fun r hr => (hck.each (Rl.p r) (List.mem_map_of_mem hr)).1) (fun r hr x hx => by have h2 := (hck.each (Rl.p r) (List.mem_map_of_mem hr)).2.2.2 x hx; have h3 := hck.tn; omega) (by omega) 0 x1 true
            rw [hrl] at hwalk
            have Hwalk := Lib.hid hwalk
            have Hrl := Lib.hid hrl
            have Hfit : Hid (∀ s, walkF (G.R.map Rl.p) (T.map (·.1)) 0 x1 true = some s → s.tree.length = k) := Lib.hid fun s hs => by
              rw [(walkF_fit (fun r hr => (hck.each r hr).1) hs).1]; exact hrl
            clear hwalk hrl hck
            cases hwf : walkF (G.R.map Rl.p) (T.map (·.1)) 0 x1 true with
            | none =>
              rw [hwf] at Hwalk
              have Hwf := Lib.hid hwf
              clear hwf
              go_wp2_with fail
              go_region_with (go_at_call 49; refine (Hwalk.out _).mono ?_; rintro en w2 ⟨hb2, p, rfl⟩)
              all_goals
                have hbz : Below w.heap.size w w2 := (below_dN hbwr _).trans (hb2.mono hbwr.size)
                have hE2 := hE.below hbz
                have hz2 := hE2.size
                have z2 : 0 < w2.heap.size := by omega
                have t11 : gno 11 < w2.heap.size := Nat.lt_of_lt_of_le (gno_lt 11) hE2.size
                have d11 := hE2.cell 11 (by omega) (by omega)
                simp only [gno] at t11 d11
                go_wp2_with fail
                go_quiet (fail)
                go_wp2_with fail
                go_ret2
                exact ⟨below_dN hbz _, by unfold knownF; rw [if_neg (by simpa using Hok.out)]; simp only [show ¬ (x1 < 0 ∨ x2 < x1) by omega, if_false]; rw [← HT.out, Hwf.out]; exact ⟨_, rfl, by simp, by omega, by omega, rfl⟩⟩
            | some s =>
              rw [hwf] at Hwalk
              have Hwf := Lib.hid hwf
              clear hwf
              go_wp2_with fail
              go_region_with (go_at_call 49; refine (Hwalk.out _).mono ?_; rintro en w2 ⟨hb2, gw, rfl, hgw, BB, hBB, At, ct, Ak, ck, hBk, hTk, hKk⟩)
              all_goals
                have hbz : Below w.heap.size w w2 := (below_dN hbwr _).trans (hb2.mono hbwr.size)
                have hE2 := hE.below hbz
                have hz2 := hE2.size
                have z2 : 0 < w2.heap.size := by omega
                have t11 : gno 11 < w2.heap.size := Nat.lt_of_lt_of_le (gno_lt 11) hE2.size
                have d11 := hE2.cell 11 (by omega) (by omega)
                simp only [gno] at t11 d11
                have q7 : w2.cell? ⟨gw, 7, none⟩ = some (.slice At s.tree.length ct) := hBk.cell 7
                have heq := eq_steps At (some ⟨b, o, none⟩) ct c s.tree T w2 w2.heap.size (own_row hTk) ((hr.below hbz).more hbz.size) (by have := Hfit.out s Hwf.out; omega) (by have := Hn.out; omega)
                rw [← Hn.out] at heq
                have Heq := Lib.hid heq
                clear heq
                go_wp2_with fail
                refine Heq.out.mono ?_
                rintro en w3 ⟨rfl, q3, rfl⟩
                have hrow := Row.below (B := wr.heap.size) (own_row hown).drewN hb2
                by_cases hst2 : s.tree = T
                · have D : decide (s.tree = T) = true := decide_eq_true hst2
                  have Hst2 := Lib.hid hst2
                  clear hst2
                  go_wp2_with fail
                  go_ret2
                  exact ⟨below_dN hbz _, by
                    unfold knownF; rw [if_neg (by simpa using Hok.out)]; simp only [show ¬ (x1 < 0 ∨ x2 < x1) by omega, if_false]; rw [← HT.out, Hwf.out]; simp only [Hst2.out, if_true]
                    exact ⟨gw, A', c', BB, rfl, Nat.le_trans hbwr.size hgw, Nat.le_trans hbwr.size hBB, ⟨At, ct, Ak, ck, hBk, hTk, hKk⟩, hrow.more hb2.size, by rw [Hrl.out]; exact own_cap hown⟩⟩
                · have D : decide (s.tree = T) = false := decide_eq_false hst2
                  have Hst2 := Lib.hid hst2
                  clear hst2
                  go_wp2_with fail
                  go_quiet (fail)
                  go_wp2_with fail
                  go_ret2
                  exact ⟨below_dN (below_dN hbz _) _, by unfold knownF; rw [if_neg (by simpa using Hok.out)]; simp only [show ¬ (x1 < 0 ∨ x2 < x1) by omega, if_false]; rw [← HT.out, Hwf.out]; simp only [Hst2.out, if_false]; exact ⟨_, rfl, by simp, by omega, by omega, rfl⟩⟩
  · go_wp2_with fail
    go_ret2
    exact ⟨hbw1, by unfold knownF; rw [if_pos hok]; exact ⟨_, rfl, hok, hv⟩⟩

/-- The rules of a tree, or what is wrong. -/
def RulesEnd (e : Nat → Addr) (ru : List Int) (w : World) (r : Except Er St) (en : Ending) (w' : World) : Prop :=
  Below w.heap.size w w' ∧ match r with
    | .ok _ => ∃ A c, en = .returned (.tuple #[.slice A ru.length c, .nilIface]) ∧ Row w' w'.heap.size A (nums ru)
    | .error er => ∃ v, en = .returned (.tuple #[.slice none 0 0, v]) ∧ er ≠ .ok ∧ ErIs w' e v er

set_option maxHeartbeats 1000000 in
theorem rules_any (e : Nat → Addr) (w : World) (hE : GE w e) (G : GV) (hG : G.In w w.heap.size) (A : Option Addr) (c : Nat) (tree : List (Int × Int × Int)) (hr : Row w w.heap.size A (stepCells tree)) (htl : tree.length ≤ c) (hc : tree.length ≤ 140737488355328) :
    Calls Tryz.prog 13 #[G.val, .slice A tree.length c] w (RulesEnd e (tree.map (·.1)) w (knownF G.T G.N G.ax (G.R.map Rl.p) tree)) := by
  have bw : Below w.heap.size w (w.alloc (.cells G.cells 25)) := (Below.refl _ _).alloc (Nat.le_refl _) _
  have hk := known_any e _ (hE.below bw) G ((hG.below bw).more bw.size) A c tree ((hr.below bw).more bw.size) htl hc
  cases hkf : knownF G.T G.N G.ax (G.R.map Rl.p) tree with
  | error er =>
    rw [hkf] at hk
    have Hk := Lib.hid hk
    clear hk hkf
    go_enter Tryz.func13, Tryz.ntmps13
    go_wp2_with fail
    refine Hk.out.mono ?_
    rintro en w1 ⟨hb1, v, rfl, hne, hv⟩
    rcases hv.form with ⟨h0, _⟩ | ⟨_, t, x, rfl⟩
    · exact absurd h0 hne
    · go_wp2_with fail
      go_ret2
      exact ⟨bw.trans (hb1.mono bw.size), _, rfl, hne, hv⟩
  | ok s =>
    rw [hkf] at hk
    have Hk := Lib.hid hk
    clear hk hkf
    go_enter Tryz.func13, Tryz.ntmps13
    go_wp2_with fail
    refine Hk.out.mono ?_
    rintro en w1 ⟨hb1, g, Ar, cr, B, rfl, hg, hB, ⟨At, ct, Ak, ck, hBk, hTk, hKk⟩, hrow, hcap⟩
    have q4 : w1.cell? ⟨g, 4, none⟩ = some (.slice Ar (tree.map (·.1)).length cr) := hBk.cell 4
    obtain ⟨m, Hm⟩ : ∃ m, Hid ((tree.map (·.1)).length = m) := ⟨_, Lib.hid rfl⟩
    rw [Hm.out] at q4
    go_wp2_with fail
    go_ret2
    exact ⟨bw.trans (hb1.mono bw.size), Ar, cr, by rw [Hm.out]; rfl, hrow⟩
end Go.Proofs.YtoidecclimhgjaaGreatDoor
