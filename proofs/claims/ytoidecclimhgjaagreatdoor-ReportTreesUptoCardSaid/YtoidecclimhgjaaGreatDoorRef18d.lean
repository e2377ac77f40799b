/- dovetailref18.Known. -/
import Derived.Test.YtoidecclimhgjaaGreatDoorRef18c
import Derived.Test.YtoidecclimhgjaaGreatDoorKnown
import Derived.Deep.RegionHeld3
namespace Go.Proofs.YtoidecclimhgjaaGreatDoor
open Go.RowKit

theorem closeF_len (R : List (Int × List Int)) (n : Nat) : ∀ c : Oc, (closeF R n c).tree.length = c.tree.length := by
  induction n with
  | zero => intro c; rfl
  | succ n ih =>
    intro c
    simp only [closeF]
    split
    · rfl
    · split
      · rw [ih]; simp [Oc.shut]
      · split
        · rfl
        · rw [ih]; simp [Oc.tok]
theorem stepF_len {R : List (Int × List Int)} {root n : Int} {c c' : Oc} (h : stepF R root c n = some c') : c'.tree.length = c.tree.length + 1 := by
  unfold stepF at h
  obtain ⟨c1, h1, rfl⟩ := Option.map_eq_some_iff.1 h
  rw [closeF_len]
  unfold pushF at h1
  split at h1
  · cases h1
  split at h1
  · cases h1
  split at h1
  · split at h1
    · cases h1
    · cases h1; simp [Oc.push]
  · split at h1
    · cases h1
    · split at h1
      · cases h1; simp [Oc.push]
      · cases h1
theorem fold_len {R : List (Int × List Int)} {root : Int} (ru : List Int) : ∀ c c' : Oc, ru.foldlM (stepF R root) c = some c' → c'.tree.length = c.tree.length + ru.length := by
  induction ru with
  | nil => intro c c' h; simp at h; subst h; simp
  | cons n ru ih =>
    intro c c' h
    simp only [List.foldlM_cons, Option.bind_eq_bind, Option.bind_eq_some_iff] at h
    obtain ⟨c1, h1, h2⟩ := h
    rw [ih _ _ h2, stepF_len h1, List.length_cons]; omega
theorem t18F_len {R : List (Int × List Int)} {root f : Int} {ru : List Int} {c : Oc} (h : t18F R root f ru = some c) : c.tree.length = ru.length := by
  unfold t18F runF at h
  rw [Option.bind_eq_some_iff] at h
  obtain ⟨c1, h1, h2⟩ := h
  split at h2
  · cases h2; rw [fold_len _ _ _ h1]; simp
  · cases h2
theorem t18F_walk {R : List (Int × List Int)} {ru : List Int} (h32 : ∀ r ∈ R, r.2.length ≤ 32) (hl0 : ∀ r ∈ R, 0 ≤ r.1) (from_ : Int) (hne : ru ≠ []) : t18F R (-1) from_ ru = (walkF R ru 0 from_ true).map fun s => ocOf s [] := by
  have := run_walk (root := -1) h32 hl0 0 from_ (by omega) hne
  simp only [show decide ((-1 : Int) < 0) = true from rfl] at this
  rw [← this]
  unfold t18F
  congr 1
  funext c
  simp [hne]

def pickF (TR : List (Int × Int × Int)) (o : Option St) : Except Er St := match o with | none => .error (.kind 11) | some s => if s.tree = TR then .ok s else .error (.kind 11)
theorem knownF_cons {T N : List ByteArray} {ax : Int} {R : List (Int × List Int)} {x : Int × Int × Int} {tl : List (Int × Int × Int)} (hok : mayErr T N ax R ((x :: tl).length : Nat) = .ok) (hx : ¬ (x.2.1 < 0 ∨ x.2.2 < x.2.1)) :
    knownF T N ax R (x :: tl) = pickF (x :: tl) (walkF R ((x :: tl).map (·.1)) 0 x.2.1 true) := by
  unfold knownF pickF
  rw [if_neg (by simpa using hok)]
  simp only [hx, if_false]
  cases walkF R ((x :: tl).map (·.1)) 0 x.2.1 true <;> rfl

def K18End (w : World) (r : Except Er St) (en : Ending) (w' : World) : Prop :=
  Below w.heap.size w w' ∧ match r with
    | .ok _ => ∃ a b d, en = .returned (.tuple #[a, b, d, .int .i64 0, .int .i64 (-1)])
    | .error er => er ≠ .ok ∧ ∃ a b d, en = .returned (.tuple #[a, b, d, .int .i64 er.kd, .int .i64 er.ru])

set_option maxHeartbeats 4000000 in
set_option maxRecDepth 100000 in
theorem known18 (G : GV) (w : World) (hG : G.In w w.heap.size) (A : Option Addr) (c : Nat) (tree : List (Int × Int × Int)) (hr : Row w w.heap.size A (stepCells tree)) (hlen : tree.length ≤ 140737488355328) :
    Calls Tryz.prog 21 #[G.val, .slice A tree.length c] w (K18End w (knownF G.T G.N G.ax (G.R.map Rl.p) tree)) := by
  obtain ⟨T, AT, cT, N, AN, cN, ax, R, AR, cR⟩ := G
  have bw : Below w.heap.size w (w.alloc (.cells #[.slice AT T.length cT, .slice AN N.length cN, .int .i64 ax, .slice AR R.length cR] 25)) := (Below.refl _ _).alloc (Nat.le_refl _) _
  have hm := may_ref ⟨T, AT, cT, N, AN, cN, ax, R, AR, cR⟩ tree.length _ w.heap.size (hG.below bw) bw.size
  have Hm := Lib.hid hm
  have HG := Lib.hid hG
  simp only [GV.val] at *
  clear hm hG
  go_enter Tryz.func21, Tryz.ntmps21
  go_wp2_with fail
  refine Hm.out.mono ?_
  rintro en w1 ⟨hb1, rfl⟩
  have hbw1 : Below w.heap.size w w1 := bw.trans (hb1.mono bw.size)
  clear Hm
  by_cases hok : mayErr T N ax (R.map Rl.p) tree.length = .ok
  · have Hok := Lib.hid hok
    obtain ⟨hck, hst, _⟩ := may_ok hok
    rw [hok]
    clear hok
    have hn0 : (((Er.ok).kd : Int) != 0) = false := rfl
    rcases tree with _ | ⟨x, tl⟩
    · simp only [List.length_nil] at *
      go_wp2_with fail
      go_quiet (fail)
      go_wp2_with fail
      refine bodyPost_ret (v := .tuple #[.slice none 0 0, .slice none 0 0, .int .i64 0, .int .i64 11, .int .i64 (-1)]) (by simp [results, Tryz.results21, go_sem]) rfl ⟨below_dN hbw1 _, by unfold knownF; rw [if_neg (by simpa using Hok.out)]; exact ⟨by simp, _, _, _, rfl⟩⟩
    · obtain ⟨x0, x1, x2⟩ := x
      obtain ⟨b, o, rfl, hbb, y0, y1, y2⟩ := (hr.below hbw1).steps (k := 0) (by simp)
      simp only [List.getElem_cons_zero, Nat.zero_mul, Nat.add_zero] at y0 y1 y2
      have hpos : (((((x0, x1, x2) :: tl).length : Nat) : Int) == 0) = false := by simp; omega
      obtain ⟨TR, hT⟩ : ∃ TR, TR = (x0, x1, x2) :: tl := ⟨_, rfl⟩
      rw [← hT] at hst hlen hpos hr ⊢
      obtain ⟨n, hn⟩ : ∃ n, n = TR.length := ⟨_, rfl⟩
      have Hn := Lib.hid hn
      have hn0 : 0 < n := by rw [hn, hT]; simp
      rw [← hn] at hst hlen hpos ⊢
      have HT := Lib.hid hT
      clear hn hT
      by_cases hx1 : x1 < 0
      · go_wp2_with fail
        go_quiet (fail)
        go_wp2_with fail
        refine bodyPost_ret (v := .tuple #[.slice none 0 0, .slice none 0 0, .int .i64 0, .int .i64 11, .int .i64 (-1)]) (by simp [results, Tryz.results21, go_sem]) rfl ⟨below_dN hbw1 _, by unfold knownF; rw [if_neg (by simpa using Hok.out)]; simp only [hx1, true_or, if_true]; exact ⟨by simp, _, _, _, rfl⟩⟩
      by_cases hx2 : x2 < x1
      · go_wp2_with fail
        go_quiet (fail)
        go_wp2_with fail
        refine bodyPost_ret (v := .tuple #[.slice none 0 0, .slice none 0 0, .int .i64 0, .int .i64 11, .int .i64 (-1)]) (by simp [results, Tryz.results21, go_sem]) rfl ⟨below_dN hbw1 _, by unfold knownF; rw [if_neg (by simpa using Hok.out)]; simp only [hx2, or_true, if_true]; exact ⟨by simp, _, _, _, rfl⟩⟩
      · go_wp2_with fail
        go_quiet (fail)
        go_wp2_with fail
        obtain ⟨j0, hj0, hj1, hj2, hj3⟩ := info_parts Tryz.info3
        have HF : Hid (knownF T N ax (R.map Rl.p) ((x0, x1, x2) :: tl) = pickF TR (walkF (R.map Rl.p) (TR.map (·.1)) 0 x1 true)) := Lib.hid (by
          rw [HT.out]; exact knownF_cons Hok.out (by simp only; omega))
        go_loopw [11, 12] (fun v i wr => ∃ (k : Nat) (A' : Option Addr) (c' : Nat), k ≤ n ∧ i = .int .i64 k ∧ v = .slice A' k c' ∧ wr.ownsRow w1.heap.size 3 1 (.slice A' k c') k (nums ((TR.map (·.1)).take k)) ∧ Below w1.heap.size w1 wr) (fun _ i _ => n - (intOf i).toNat)
        case atStart => exact ⟨0, none, 0, Nat.zero_le _, rfl, rfl, World.ownsRow_nil _ _ _ _, below_dN (Below.refl _ _) _⟩
        case round =>
          obtain ⟨k, A', c', hk, rfl, rfl, hown, hbr⟩ := hrel
          by_cases hlt : k < n
          · have hltT : k < TR.length := by have := Hn.out; omega
            obtain ⟨b2, o2, hA2, _, z0, z1, z2⟩ := ((hr.below hbw1).below (hbr.mono hbw1.size)).steps (k := k) hltT
            simp only [Option.some.injEq, Addr.mk.injEq, and_true] at hA2
            obtain ⟨rfl, rfl⟩ := hA2
            have hbase : w1.heap.size ≤ wr.heap.size := hbr.size
            have hnum : nums ((TR.map (·.1)).take (k + 1)) = nums ((TR.map (·.1)).take k) ++ [.int .i64 TR[k].1] := by
              rw [List.take_succ_eq_append_getElem (by simpa using hltT)]; simp [nums]
            have Hnum := Lib.hid hnum
            clear hnum
            go_wp2_with (at_builtin; refine wpList_append_own _ rfl _ _ 43 rfl w1.heap.size 3 j0 _ 1 8 Tryz.underlying43 hj0 hj1 hj2 hj3 rfl (by decide) (.slice A' k c') k _ rfl (hown.alloc _) ⟨wr.heap.size, 0, none⟩ 1 1 [.int .i64 TR[k].1] rfl rfl (World.news_of_block (heap_alloc_new wr _)) (by intro u hu; simp at hu; subst hu; rfl) (by simp only [maxLen]; omega) (by omega) (by simp; omega) ?_; intro v3 w3 ho3 hg3 _; obtain ⟨A3, c3, rfl⟩ := own_form ho3)
            go_roundw
            case rel => exact ⟨k + 1, A3, c3, by omega, by go_num, rfl, by rw [Hnum.out]; exact ho3, (hbr.alloc hbase _).grown hg3 (by simp; omega) (fun j hj => (hown.lt j hj).1)⟩
            case measure => simp [intOf]; omega
          · obtain rfl : k = n := by omega
            have hrl : (TR.map (·.1)).length = k := by rw [List.length_map]; exact Hn.out.symm
            rw [List.take_of_length_le (by omega)] at hown
            have hbwr : Below w.heap.size w wr := hbw1.trans (hbr.mono hbw1.size)
            have h1 : w.heap.size < w1.heap.size := by have := hb1.size; simp at this; omega
            have hl0 : w.heap.size < wr.heap.size := Nat.lt_of_lt_of_le h1 hbr.size
            have hlb : b < wr.heap.size := by omega
            have g0 : wr.cell? ⟨w.heap.size, 0, none⟩ = some (.slice AT T.length cT) := (hbr.cell h1).trans ((hb1.cell (by simp)).trans (by go_simp))
            have g1 : wr.cell? ⟨w.heap.size, 1, none⟩ = some (.slice AN N.length cN) := (hbr.cell h1).trans ((hb1.cell (by simp)).trans (by go_simp))
            have g2 : wr.cell? ⟨w.heap.size, 2, none⟩ = some (.int .i64 ax) := (hbr.cell h1).trans ((hb1.cell (by simp)).trans (by go_simp))
            have g3 : wr.cell? ⟨w.heap.size, 3, none⟩ = some (.slice AR R.length cR) := (hbr.cell h1).trans ((hb1.cell (by simp)).trans (by go_simp))
            have y1' : wr.cell? ⟨b, o + 1, none⟩ = some (.int .i64 x1) := (hbr.cell (by show b < _; omega)).trans y1
            have htree : Hid (∀ W, Below wr.heap.size wr W → Calls Tryz.prog 40 #[.agg #[.slice AT T.length cT, .slice AN N.length cN, .int .i64 ax, .slice AR R.length cR], .slice A' k c', .int .i64 (-1), .int .i64 x1] W (T18End W (t18F (R.map Rl.p) (-1) x1 (TR.map (·.1))))) := Lib.hid fun W hW => by
              have := tree18 ⟨T, AT, cT, N, AN, cN, ax, R, AR, cR⟩ W ((HG.out.below (hbwr.trans (hW.mono hbwr.size))).more (hbwr.trans (hW.mono hbwr.size)).size) A' c' (TR.map (·.1)) (((own_row hown).below hW).more hW.size) (by rw [hrl]; omega)
                (fun r hr => (hck.each (Rl.p r) (List.mem_map_of_mem hr)).1) (fun r hr => by have h2 := hck.each (Rl.p r) (List.mem_map_of_mem hr); have h3 := hck.tn; simp only [Rl.p] at h2; omega) (-1) x1
              rw [hrl] at this
              exact this
            have hne : TR.map (·.1) ≠ [] := by intro h; rw [h] at hrl; simp at hrl; omega
            have HW := Lib.hid (t18F_walk (R := R.map Rl.p) (fun r hr => (hck.each r hr).1) (fun r hr => (hck.each r hr).2.1) x1 hne)
            have Hrl := Lib.hid hrl
            have HX := Lib.hid (And.intro g0 (And.intro g1 (And.intro g2 (And.intro g3 y1'))))
            have hZ : Below wr.heap.size wr wr.drew := (Below.refl _ _).drew
            clear hrl hck hne
            cases hwf : t18F (R.map Rl.p) (-1) x1 (TR.map (·.1)) with
            | none =>
              have HE : Hid (knownF T N ax (R.map Rl.p) ((x0, x1, x2) :: tl) = .error (.kind 11)) := Lib.hid (by
                have := HW.out
                rw [hwf, eq_comm, Option.map_eq_none_iff] at this
                rw [HF.out, this]; rfl)
              rw [hwf] at htree
              have Hwf := Lib.hid hwf
              clear hwf
              go_wp2_with fail
              go_region_held3 (fun w' => w'.cell? ⟨w.heap.size, 0, none⟩ = some (.slice AT T.length cT) ∧ w'.cell? ⟨w.heap.size, 1, none⟩ = some (.slice AN N.length cN) ∧ w'.cell? ⟨w.heap.size, 2, none⟩ = some (.int .i64 ax) ∧ w'.cell? ⟨w.heap.size, 3, none⟩ = some (.slice AR R.length cR) ∧ w'.cell? ⟨b, o + 1, none⟩ = some (.int .i64 x1)) (go_keep)
                (first
                  | (go_at_call 40; (with_reducible refine (htree.out _ hZ).mono ?_); rintro en w3 ⟨hb3, a1, a2, a3, rfl⟩; have hZ' := hZ.trans (hb3.mono hZ.size); clear hZ; have hZ := hZ'; clear hZ'; have e0 := (hZ.cell (p := ⟨w.heap.size, 0, none⟩) hl0).trans HX.out.1; have e1 := (hZ.cell (p := ⟨w.heap.size, 1, none⟩) hl0).trans HX.out.2.1; have e2 := (hZ.cell (p := ⟨w.heap.size, 2, none⟩) hl0).trans HX.out.2.2.1; have e3 := (hZ.cell (p := ⟨w.heap.size, 3, none⟩) hl0).trans HX.out.2.2.2.1; have e4 := (hZ.cell (p := ⟨b, o + 1, none⟩) hlb).trans HX.out.2.2.2.2))
              all_goals
                go_wp2_with fail
                refine bodyPost_ret (v := .tuple #[.slice none 0 0, .slice none 0 0, .int .i64 0, .int .i64 11, .int .i64 (-1)]) (by simp [results, Tryz.results21, go_sem]) rfl ⟨hbwr.trans (hZ.mono hbwr.size), by rw [HE.out]; exact ⟨by simp, _, _, _, rfl⟩⟩
            | some c1 =>
              have hlc := t18F_len hwf
              have HE1 : Hid (c1.tree = TR → ∃ s, knownF T N ax (R.map Rl.p) ((x0, x1, x2) :: tl) = .ok s) := Lib.hid fun h => by
                have := HW.out
                rw [hwf, eq_comm, Option.map_eq_some_iff] at this
                obtain ⟨s, h1, h2⟩ := this
                refine ⟨s, ?_⟩
                rw [HF.out, h1]
                have h3 : s.tree = TR := by rw [← h, ← h2]; rfl
                simp only [pickF, h3, if_true]
              have HE2 : Hid (c1.tree ≠ TR → knownF T N ax (R.map Rl.p) ((x0, x1, x2) :: tl) = .error (.kind 11)) := Lib.hid fun h => by
                have := HW.out
                rw [hwf, eq_comm, Option.map_eq_some_iff] at this
                obtain ⟨s, h1, h2⟩ := this
                rw [HF.out, h1]
                have h3 : s.tree ≠ TR := by intro e; apply h; rw [← e, ← h2]; rfl
                simp only [pickF, h3, if_false]
              rw [hwf] at htree
              have Hwf := Lib.hid hwf
              rw [Hrl.out] at hlc
              have Hlc := Lib.hid hlc
              clear hwf hlc
              go_wp2_with fail
              go_region_held3 (fun w' => w'.cell? ⟨w.heap.size, 0, none⟩ = some (.slice AT T.length cT) ∧ w'.cell? ⟨w.heap.size, 1, none⟩ = some (.slice AN N.length cN) ∧ w'.cell? ⟨w.heap.size, 2, none⟩ = some (.int .i64 ax) ∧ w'.cell? ⟨w.heap.size, 3, none⟩ = some (.slice AR R.length cR) ∧ w'.cell? ⟨b, o + 1, none⟩ = some (.int .i64 x1)) (go_keep)
                (first
                  | (go_at_call 40; (with_reducible refine (htree.out _ hZ).mono ?_); rintro en w3 ⟨hb3, At, Ak, ct, ck, dp, rfl, hrt, _⟩; have hZ' := hZ.trans (hb3.mono hZ.size); clear hZ; have hZ := hZ'; clear hZ'; have e0 := (hZ.cell (p := ⟨w.heap.size, 0, none⟩) hl0).trans HX.out.1; have e1 := (hZ.cell (p := ⟨w.heap.size, 1, none⟩) hl0).trans HX.out.2.1; have e2 := (hZ.cell (p := ⟨w.heap.size, 2, none⟩) hl0).trans HX.out.2.2.1; have e3 := (hZ.cell (p := ⟨w.heap.size, 3, none⟩) hl0).trans HX.out.2.2.2.1; have e4 := (hZ.cell (p := ⟨b, o + 1, none⟩) hlb).trans HX.out.2.2.2.2))
              have hbz := hbwr.trans (hZ.mono hbwr.size)
              have hrT := hr.below hbz
              rw [Hlc.out]
              have Hrt := Lib.hid hrt
              clear hrt hr e0 e1 e2 e3 e4 g0 g1 g2 g3 y1'
              go_wp2_with fail
              go_loopw [17] (fun i wr => ∃ m q : Nat, m ≤ k ∧ i = .int .i64 m ∧ wr = w3.drewN q ∧ TR.take m = c1.tree.take m) (fun i _ => k - (intOf i).toNat)
              case atStart => exact ⟨0, 0, Nat.zero_le _, rfl, rfl, by simp⟩
              case round =>
                obtain ⟨m, q, hm, rfl, rfl, hi⟩ := hrel
                have Hi := Lib.hid hi
                clear hi
                by_cases hlt2 : m < k
                · have hl1 : m < TR.length := by have := Hn.out; omega
                  have hl2 : m < c1.tree.length := by rw [Hlc.out]; exact hlt2
                  obtain ⟨b1, o1, he1, hbb1, p0, p1, p2⟩ := hrT.steps hl1
                  simp only [Option.some.injEq, Addr.mk.injEq, and_true] at he1
                  obtain ⟨rfl, rfl⟩ := he1
                  obtain ⟨b2, o2, rfl, hbb2, q0, q1, q2⟩ := Hrt.out.steps hl2
                  obtain ⟨P, HP⟩ : ∃ p, Hid (TR[m] = p) := ⟨_, Lib.hid rfl⟩
                  obtain ⟨Q, HQ⟩ : ∃ p, Hid (c1.tree[m] = p) := ⟨_, Lib.hid rfl⟩
                  rw [HP.out] at p0 p1 p2
                  rw [HQ.out] at q0 q1 q2
                  obtain ⟨P0, P1, P2⟩ := P
                  obtain ⟨Q0, Q1, Q2⟩ := Q
                  simp only at p0 p1 p2 q0 q1 q2
                  have hq : ∀ W, (binOp .neq 42 (.agg #[.int .i64 P0, .int .i64 P1, .int .i64 P2]) (.agg #[.int .i64 Q0, .int .i64 Q1, .int .i64 Q2])).run Tryz.prog W = .ok (.bool (!(decide ((P0, P1, P2) = (Q0, Q1, Q2))))) W := fun W => step_neq _ _ _ _ _ _ W
                  by_cases he : (P0, P1, P2) = (Q0, Q1, Q2)
                  · simp only [Prod.mk.injEq] at he
                    obtain ⟨rfl, rfl, rfl⟩ := he
                    go_wp2_with fail
                    go_quiet (fail)
                    go_wp2_with fail
                    go_roundw
                    case rel => exact ⟨m + 1, q + nq, by omega, by go_num, by simp, by rw [List.take_succ_eq_append_getElem hl1, List.take_succ_eq_append_getElem hl2, Hi.out, HP.out, HQ.out]⟩
                    case measure => simp [intOf]; omega
                  · simp only [he, decide_false, Bool.not_false] at hq
                    have Hne : Hid (c1.tree ≠ TR) := Lib.hid fun e => he (by rw [← HP.out, ← HQ.out]; simp [e])
                    have He := Lib.hid (HE2.out Hne.out)
                    clear he
                    go_wp2_with fail
                    go_quiet (fail)
                    go_wp2_with fail
                    refine bodyPost_ret (v := .tuple #[.slice none 0 0, .slice none 0 0, .int .i64 0, .int .i64 11, .int .i64 (-1)]) (by simp [results, Tryz.results21, go_sem]) rfl ⟨below_dN (below_dN hbz _) _, by rw [He.out]; exact ⟨by simp, _, _, _, rfl⟩⟩
                · have Heq : Hid (c1.tree = TR) := Lib.hid (by
                    have h := Hi.out
                    rw [List.take_of_length_le (by have := Hn.out; omega), List.take_of_length_le (by have := Hlc.out; omega)] at h
                    exact h.symm)
                  obtain ⟨s, hs⟩ := HE1.out Heq.out
                  have He := Lib.hid hs
                  clear hs
                  go_wp2_with fail
                  refine bodyPost_ret (v := .tuple #[.slice Ak c1.toks.length ck, .slice A' k c', .int .i64 dp, .int .i64 0, .int .i64 (-1)]) (by simp [results, Tryz.results21, go_sem]) rfl ⟨below_dN hbz _, by rw [He.out]; exact ⟨_, _, _, rfl⟩⟩
  · have hfine := mayErr_fine T N ax (R.map Rl.p) tree.length
    have hkd : (((mayErr T N ax (R.map Rl.p) tree.length).kd : Int) != 0) = true := by
      rcases hfine with h | h
      · exact absurd h hok
      · rw [bne_iff_ne]; omega
    have HK : Hid (knownF T N ax (R.map Rl.p) tree = .error (mayErr T N ax (R.map Rl.p) tree.length)) := Lib.hid (by unfold knownF; rw [if_pos hok])
    have Hok := Lib.hid hok
    clear hok hfine
    generalize mayErr T N ax (R.map Rl.p) tree.length = er at *
    go_wp2_with fail
    refine bodyPost_ret (v := .tuple #[.slice none 0 0, .slice none 0 0, .int .i64 0, .int .i64 er.kd, .int .i64 er.ru]) (by simp [results, Tryz.results21, go_sem]) rfl ⟨hbw1, by rw [HK.out]; exact ⟨Hok.out, _, _, _, rfl⟩⟩
end Go.Proofs.YtoidecclimhgjaaGreatDoor
