/- dovetailref29.Tree. -/
import Derived.Test.YtoidecclimhgjaaGreatDoorRef29a
import Derived.Test.YtoidecclimhgjaaGreatDoorRef18d
import Derived.Test.YtoidecclimhgjaaGreatDoorPRef29
import Derived.Test.YtoidecclimhgjaaGreatDoorPRange
namespace Go.Proofs.YtoidecclimhgjaaGreatDoor
open Go.RowKit

theorem knownF_fine {T N : List ByteArray} {ax : Int} {R : List (Int × List Int)} {tree : List (Int × Int × Int)} {er : Er} (h : knownF T N ax R tree = .error er) : er.fine := by
  unfold knownF at h
  split at h
  · cases h; exact mayErr_fine _ _ _ _ _
  split at h
  · cases h; exact .inr ⟨by simp [Er.kd], by simp [Er.kd], rfl⟩
  split at h
  · cases h; exact .inr ⟨by simp [Er.kd], by simp [Er.kd], rfl⟩
  split at h
  · cases h; exact .inr ⟨by simp [Er.kd], by simp [Er.kd], rfl⟩
  split at h
  · cases h
  · cases h; exact .inr ⟨by simp [Er.kd], by simp [Er.kd], rfl⟩
theorem treeF_fine {T N : List ByteArray} {ax : Int} {R : List (Int × List Int)} {tree : List (Int × Int × Int)} {er : Er} (h : treeF T N ax R tree = .error er) : er.fine := by
  unfold treeF at h
  split at h
  · rename_i hk; cases h; exact knownF_fine hk
  split at h
  · cases h; exact .inr ⟨by simp [Er.kd], by simp [Er.kd], rfl⟩
  split at h
  · cases h; exact .inr ⟨by simp [Er.kd], by simp [Er.kd], rfl⟩
  · cases h

theorem popz_top {l m : List Nat} {x : Nat} (h : popz l = x :: m) : x ≠ 0 := by
  induction l with
  | nil => simp [popz] at h
  | cons a l ih =>
    unfold popz at h ih
    rw [List.dropWhile_cons] at h
    split at h
    · exact ih h
    · rename_i ha
      cases h
      simpa using ha
theorem popz_sub {l : List Nat} {x : Nat} (h : x ∈ popz l) : x ∈ l := List.dropWhile_sublist _ |>.mem h
theorem popz_len (l : List Nat) : (popz l).length ≤ l.length := (List.dropWhile_sublist _).length_le
theorem repeat_snoc (l : List UInt8) (q : Nat) : Lib.repeatL l (q + 1) = Lib.repeatL l q ++ l := by
  induction q with
  | zero => simp [Lib.repeatL]
  | succ q ih => rw [Lib.repeatL, ih, ← List.append_assoc, ← ih]; rfl

def leftCells (L : List Nat) : List Value := nums (L.reverse.map fun x : Nat => (x : Int))
theorem leftCells_cons (x : Nat) (L : List Nat) : leftCells (x :: L) = leftCells L ++ [.int .i64 (x : Int)] := by simp [leftCells, nums]
theorem leftCells_length (L : List Nat) : (leftCells L).length = L.length := by simp [leftCells, nums]
theorem neg_le (l : List Int) : neg l ≤ l.length := List.countP_le_length

theorem line_eq (T N : List ByteArray) (r : Int × List Int) (m fu tu : Nat) (out : List UInt8) (n : Nat) :
    out ++ Lib.repeatL [32, 32] n ++ (ruleT T N r.1 r.2 ++ ⟨#[32]⟩ ++ ⟨(Lib.decDigits fu).toArray⟩ ++ ⟨#[45]⟩ ++ ⟨(Lib.decDigits tu).toArray⟩ ++ ⟨#[10]⟩ : ByteArray).data.toList = out ++ flatB (lineL T N r ((m : Int), (fu : Int), (tu : Int)) n) := by
  simp only [flatB, lineL, List.flatMap_cons, List.flatMap_nil, Lib.itoa_nonneg, ByteArray.data_append, Array.toList_append, List.append_assoc, List.append_nil]

def lenOf : Value → Nat | .slice _ n _ => n | _ => 0
theorem own_lastI {w : World} {base : Nat} {c n : Nat} {A : Option Addr} {xs : List Value} {v : Value} (h : w.ownsRow base 3 1 (.slice A (n + 1) c) (n + 1) (xs ++ [v])) :
    ∃ g, A = some ⟨g, 0, none⟩ ∧ base ≤ g ∧ g < w.heap.size ∧ w.cell? ⟨g, n, none⟩ = some v ∧ w.frozen? ⟨g, n, none⟩ = false := by
  obtain ⟨g, cap, hv, hg, hlt⟩ := h.form (by omega)
  simp only [Value.slice.injEq, true_and] at hv
  obtain ⟨rfl, rfl⟩ := hv
  have hl : xs.length = n := by have := h.1; simp at this; omega
  refine ⟨g, rfl, hg, hlt, ?_, h.frozenAt n⟩
  rw [h.cellAt _ (by omega), List.getElem?_append_right (by omega), hl, Nat.sub_self]; rfl
theorem decL_len (L : List Nat) : (decL L).length = L.length := by cases L <;> simp [decL]
theorem decL_le {L : List Nat} (h : ∀ x ∈ L, x ≤ 32) : ∀ x ∈ decL L, x ≤ 32 := by
  cases L with
  | nil => intro x hx; simp [decL] at hx
  | cons a L =>
    intro x hx
    simp only [decL, List.mem_cons] at hx
    rcases hx with rfl | hx
    · have := h a (by simp); omega
    · exact h x (by simp [hx])

/-- What the reference's text is: the text and 0, or the error's number and rule. -/
def t29V : Except Er ByteArray → Value
  | .ok s => .tuple #[.string s, .int .i64 0, .int .i64 (-1)]
  | .error er => .tuple #[.string ⟨#[]⟩, .int .i64 er.kd, .int .i64 er.ru]

set_option maxHeartbeats 8000000 in
set_option maxRecDepth 100000 in
theorem rtree_any (G : GV) (w : World) (hG : G.In w w.heap.size) (A : Option Addr) (c : Nat) (tree : List (Int × Int × Int)) (hr : Row w w.heap.size A (stepCells tree)) (hlen : tree.length ≤ 140737488355328) (hi : ∀ t ∈ tree, t.2.1 ≤ 9223372036854775807) :
    Calls Tryz.prog 7 #[G.val, .slice A tree.length c] w (RetV w (t29V (treeF G.T G.N G.ax (G.R.map Rl.p) tree))) := by
  obtain ⟨u0, hu, hz0, hz1, hz2⟩ := info_parts Tryz.info5
  obtain ⟨j0, hj0, hj1, hj2, hj3⟩ := info_parts Tryz.info3
  have bw : Below w.heap.size w (w.alloc (.cells G.cells 25)) := (Below.refl _ _).alloc (Nat.le_refl _) _
  have hk := known18 G _ ((hG.below bw).more bw.size) A c tree ((hr.below bw).more bw.size) hlen
  have Hk := Lib.hid hk
  clear hk
  go_enter Tryz.func7, Tryz.ntmps7
  go_wp2_with fail
  refine Hk.out.mono ?_
  rintro en w2 ⟨hb2, h⟩
  have hbw2 : Below w.heap.size w w2 := bw.trans (hb2.mono bw.size)
  clear Hk
  cases hkf : knownF G.T G.N G.ax (G.R.map Rl.p) tree with
  | error er =>
    rw [hkf] at h
    obtain ⟨hne, a, b, d, rfl⟩ := h
    have hkd : ((er.kd : Int) != 0) = true := by
      rcases knownF_fine hkf with h | h
      · exact absurd h hne
      · rw [bne_iff_ne]; omega
    have HF : Hid (treeF G.T G.N G.ax (G.R.map Rl.p) tree = .error er) := Lib.hid (by unfold treeF; rw [hkf])
    clear hkf hne
    go_wp2_with fail
    exact bodyPost_ret (v := .tuple #[.string ⟨#[]⟩, .int .i64 er.kd, .int .i64 er.ru]) (by simp [results, Tryz.results7, go_sem]) rfl ⟨hbw2, by rw [HF.out]; rfl⟩
  | ok s =>
    rw [hkf] at h
    obtain ⟨a, b0, d0, rfl⟩ := h
    obtain ⟨hmay, _⟩ := knownF_ok hkf
    obtain ⟨d, hd, hdat⟩ := known_down hkf
    obtain ⟨hck, hst, _⟩ := may_ok hmay
    have HR := Lib.hid (run_down hd hdat)
    have HF : Hid (treeF G.T G.N G.ax (G.R.map Rl.p) tree = if d.bad then .error (.kind 12) else .ok ⟨d.bs.toArray⟩) := Lib.hid (by unfold treeF; rw [hkf]; simp only [hd]; rfl)
    have Hrange := Lib.hid (known_range hkf hi)
    have Hrl := Lib.hid (known_rl hkf)
    have hgok : G.err = .ok := by
      unfold mayErr at hmay
      unfold GV.err
      split at hmay
      · rename_i h1; exact absurd hmay h1
      · rename_i h1; simpa using h1
    have Hgok := Lib.hid hgok
    have Hck := Lib.hid hck
    have hlg : w.heap.size < w2.heap.size := by have := hb2.size; simp at this; omega
    have hgk : Blk w2 w.heap.size 25 G.cells := (Blk.new w _ _).below hb2 (by simp)
    have HGk := Lib.hid hgk
    have HG2 := Lib.hid ((hG.below hbw2).more hbw2.size)
    have Hr2 := Lib.hid ((hr.below hbw2).more hbw2.size)
    have htl : tree.length ≤ 131072 := by omega
    clear hkf hmay hd hdat hgok hck hgk hr hG hi hst
    go_wp2_with fail
    go_loopw [12, 13, 14] (fun vo vl i wr => ∃ (k : Nat) (cs : Rs) (Ao Al : Option Addr) (co cl : Nat), k ≤ tree.length ∧ i = .int .i64 k ∧ vo = .slice Ao cs.out.length co ∧ vl = .slice Al cs.left.length cl ∧ Below w2.heap.size w2 wr ∧
      wr.ownsRow w2.heap.size 5 1 (.slice Ao cs.out.length co) cs.out.length (Lib.byteCells cs.out) ∧ wr.ownsRow w2.heap.size 3 1 (.slice Al cs.left.length cl) cs.left.length (leftCells cs.left) ∧
      (tree.take k).foldlM (stepR G.T G.N (G.R.map Rl.p)) ⟨[], []⟩ = some cs ∧ cs.out.length ≤ 1048576 ∧ cs.left.length ≤ k ∧ (∀ x ∈ cs.left, x ≤ 32) ∧ (∀ x m, cs.left = x :: m → 1 ≤ x)) (fun _ _ i _ => tree.length - (intOf i).toNat)
    case atStart => exact ⟨0, ⟨[], []⟩, none, none, 0, 0, Nat.zero_le _, rfl, rfl, rfl, Below.refl _ _, World.ownsRow_nil _ _ _ _, World.ownsRow_nil _ _ _ _, rfl, by simp, by simp, fun x h => by simp at h, fun x m h => by simp at h⟩
    case round =>
      obtain ⟨k, ⟨out, left⟩, Ao, Al, co, cl, hk, rfl, rfl, rfl, hb, hoo, hol, hfold, hout, hll, h32, htop⟩ := hrel
      simp only at hoo hol hout hll h32 htop
      have Hfold := Lib.hid hfold
      have H32 := Lib.hid h32
      have Htop := Lib.hid htop
      clear hfold h32 htop
      have hbw := hbw2.trans (hb.mono hbw2.size)
      have hz := hb.size
      by_cases hlt : k < tree.length
      · obtain ⟨bt, ot, rfl, hbt, y0, y1, y2⟩ := Hr2.out.steps hlt
        obtain ⟨hr0, hr1⟩ := Hrl.out _ (List.getElem_mem hlt)
        obtain ⟨⟨hf0, hf1⟩, ht0, ht1⟩ := Hrange.out _ (List.getElem_mem hlt)
        obtain ⟨s1, hs1⟩ : ∃ s1, tree[k] = s1 := ⟨_, rfl⟩
        rw [hs1] at y0 y1 y2 hr0 hr1 hf0 hf1 ht0 ht1
        have Hs1 := Lib.hid hs1
        obtain ⟨sr, sf, st⟩ := s1
        simp only at y0 y1 y2 hr0 hr1 hf0 hf1 ht0 ht1
        obtain ⟨m, rfl⟩ := Int.eq_ofNat_of_zero_le hr0
        obtain ⟨fu, rfl⟩ := Int.eq_ofNat_of_zero_le hf0
        obtain ⟨tu, rfl⟩ := Int.eq_ofNat_of_zero_le ht0
        rw [Int.toNat_natCast, List.length_map] at hr1
        have Hstep : Hid (stepR G.T G.N (G.R.map Rl.p) ⟨out, left⟩ tree[k] = if 1048576 < out.length + 2 * left.length then none
            else if 1048576 < (out ++ flatB (lineL G.T G.N (Rl.p G.R[m]) (m, fu, tu) left.length)).length then none
            else some ⟨out ++ flatB (lineL G.T G.N (Rl.p G.R[m]) (m, fu, tu) left.length), popz (neg G.R[m].right :: decL left)⟩) := Lib.hid (by
          rw [hs1]; unfold stepR; simp only [Int.toNat_natCast, List.getElem?_map, List.getElem?_eq_getElem hr1, Option.map_some]; rfl)
        have Hnone : Hid (stepR G.T G.N (G.R.map Rl.p) ⟨out, left⟩ tree[k] = none → treeF G.T G.N G.ax (G.R.map Rl.p) tree = .error (.kind 12)) := Lib.hid fun h => by
          have h1 := fold_none hlt Hfold.out h
          have h2 := HR.out
          unfold runR at h2
          rw [h1] at h2
          by_cases hbad : d.bad
          · rw [HF.out, if_pos hbad]
          · rw [if_neg hbad] at h2; cases h2
        clear hs1 hr0 hf0 ht0
        by_cases hlong : 1048576 < out.length + 2 * left.length
        · have HE := Lib.hid (Hnone.out (by rw [Hstep.out, if_pos hlong]))
          go_wp2_with fail
          exact bodyPost_ret (v := .tuple #[.string ⟨#[]⟩, .int .i64 12, .int .i64 (-1)]) (by simp [results, Tryz.results7, go_sem]) rfl ⟨hbw, by rw [HE.out]; rfl⟩
        · have HS2 : Hid (stepR G.T G.N (G.R.map Rl.p) ⟨out, left⟩ tree[k] = if 1048576 < (out ++ flatB (lineL G.T G.N (Rl.p G.R[m]) (m, fu, tu) left.length)).length then none
            else some ⟨out ++ flatB (lineL G.T G.N (Rl.p G.R[m]) (m, fu, tu) left.length), popz (neg G.R[m].right :: decL left)⟩) := Lib.hid (by rw [Hstep.out, if_neg hlong])
          clear Hstep
          have hDec : decide ((1048576 : Int) - out.length < 2 * left.length) = false := decide_eq_false (by omega)
          go_wp2_with fail
          go_loopw [12, 15] (fun vo j wi => ∃ (q : Nat) (A2 : Option Addr) (c2 n2 : Nat), q ≤ left.length ∧ j = .int .i64 q ∧ vo = .slice A2 n2 c2 ∧ Below w2.heap.size w2 wi ∧
            wi.ownsRow w2.heap.size 5 1 (.slice A2 n2 c2) n2 (Lib.byteCells (out ++ Lib.repeatL [32, 32] q)) ∧ wi.ownsRow w2.heap.size 3 1 (.slice Al left.length cl) left.length (leftCells left)) (fun _ j _ => left.length - (intOf j).toNat)
          case atStart => exact ⟨0, Ao, co, out.length, Nat.zero_le _, rfl, rfl, hb, by simpa [Lib.repeatL] using hoo, hol⟩
          case round =>
            obtain ⟨q, A2, c2, n2, hq, rfl, rfl, hbi, hoi, hli⟩ := hrel
            have hzi := hbi.size
            have hn2 : n2 = out.length + 2 * q := by
              have := hoi.1
              rw [byteCells_length, List.length_append, Lib.repeatL_length] at this
              simp at this; omega
            have Hn2 := Lib.hid hn2
            have hn2' : n2 ≤ 1310720 := by omega
            clear hn2 hb hoo hol hbw hz
            by_cases hql : q < left.length
            · have Hsn : Hid (Lib.byteCells (out ++ Lib.repeatL [32, 32] (q + 1)) = Lib.byteCells (out ++ Lib.repeatL [32, 32] q) ++ Lib.strCells ⟨#[32, 32]⟩) := Lib.hid (by rw [repeat_snoc, ← List.append_assoc, byteCells_append]; rfl)
              have h2 : (⟨#[32, 32]⟩ : ByteArray).size = 2 := rfl
              go_wp2_with (at_builtin; refine Lib.wpList_append_own_string _ rfl _ _ 48 9 rfl w2.heap.size 5 u0 Tryz.underlying48 Tryz.underlying9 hu hz0 hz1 hz2 (.slice A2 n2 c2) n2 _ rfl hoi ⟨#[32, 32]⟩ rfl (by unfold maxLen; omega) (by omega) hzi ?_; intro v3 w3 ho3 hg3 _; obtain ⟨A3, c3, rfl⟩ := own_form ho3)
              go_roundw
              case rel => exact ⟨q + 1, A3, c3, n2 + 2, by omega, by go_num, rfl, hbi.grown hg3 hzi (fun j hj => (hoi.lt j hj).1), by rw [Hsn.out]; exact ho3, own_kept hli hoi (by decide) hg3⟩
              case measure => simp [intOf]; omega
            · obtain rfl : q = left.length := by omega
              obtain ⟨bs2, hbs2⟩ : ∃ bs2, out ++ Lib.repeatL [32, 32] left.length = bs2 := ⟨_, rfl⟩
              rw [hbs2] at hoi
              have Hbs2 := Lib.hid hbs2
              have hbwi := hbw2.trans (hbi.mono hbw2.size)
              clear hbs2
              have hgr := HGk.out.below hbi hlg
              have g0 := hgr.cell 0; have g1 := hgr.cell 1; have g2 := hgr.cell 2; have g3 := hgr.cell 3
              simp only [List.getElem?_toArray, List.getElem?_cons_zero, List.getElem?_cons_succ] at g0 g1 g2 g3
              have hlgi : w.heap.size < wr.heap.size := Nat.lt_of_lt_of_le hlg hzi
              have hlbi : bt < wr.heap.size := by omega
              have x0 := (hbi.cell (p := ⟨bt, ot + k * 3, none⟩) hbt).trans y0
              have x1 := (hbi.cell (p := ⟨bt, ot + k * 3 + 1, none⟩) hbt).trans y1
              have x2 := (hbi.cell (p := ⟨bt, ot + k * 3 + 2, none⟩) hbt).trans y2
              have hnames : ∀ x ∈ G.T ++ G.N, x.size ≤ 1048576 := fun x hx => (List.mem_append.1 hx).elim (names_le Hck.out.nt x) (names_le Hck.out.nn x)
              have hrr := Hck.out.each (Rl.p G.R[m]) (List.mem_map_of_mem (List.getElem_mem hr1))
              have hrsz := ruleT_le (l := G.R[m].left) (r := G.R[m].right) hnames hrr.1
              have hr32 : G.R[m].right.length ≤ 32 := hrr.1
              have Hrule : Hid (∀ W, Below wr.heap.size wr W → Calls Tryz.prog 22 #[G.val, .int .i64 m] W (RetV W (.tuple #[.string (ruleT G.T G.N G.R[m].left G.R[m].right), .int .i64 0]))) := Lib.hid fun W hW => by
                have hWW := hbi.trans (hW.mono hzi)
                have htn := Hck.out.tn
                exact rrule_any G m hr1 W w2.heap.size (HG2.out.below hWW) hWW.size Hgok.out (by have := hrr.2; simp only [Rl.p] at this; omega) (fun s hs => by have := hrr.2.2.2 s hs; omega) (by omega) hnames
              have hlf := Lib.nDigits_le20 fu (by omega)
              have hlt2 := Lib.nDigits_le20 tu (by omega)
              rw [← Lib.decDigits_length] at hlf hlt2
              have Hline := Lib.hid (line_eq G.T G.N (Rl.p G.R[m]) m fu tu out left.length)
              have Hnum : Hid (∀ (u : Nat) W, (u = fu ∨ u = tu) → Calls Tryz.prog 23 #[.int .i64 u] W (RetV W (.string ⟨(Lib.decDigits u).toArray⟩))) := Lib.hid fun u W h => number_any u W (by rcases h with rfl | rfl <;> omega)
              have hn2m : n2 ≤ 1310720 := hn2'
              obtain ⟨rs, hrs⟩ : ∃ rs, ruleT G.T G.N G.R[m].left G.R[m].right = rs := ⟨_, rfl⟩
              simp only [Rl.p] at Hline
              rw [hrs, Hbs2.out] at Hline
              rw [hrs] at Hrule hrsz
              obtain ⟨df, hdf⟩ : ∃ df, Lib.decDigits fu = df := ⟨_, rfl⟩
              obtain ⟨dt, hdt⟩ : ∃ dt, Lib.decDigits tu = dt := ⟨_, rfl⟩
              have Hnf : Hid (∀ W, Calls Tryz.prog 23 #[.int .i64 fu] W (RetV W (.string ⟨df.toArray⟩))) := Lib.hid fun W => hdf ▸ Hnum.out fu W (.inl rfl)
              have Hnt : Hid (∀ W, Calls Tryz.prog 23 #[.int .i64 tu] W (RetV W (.string ⟨dt.toArray⟩))) := Lib.hid fun W => hdt ▸ Hnum.out tu W (.inr rfl)
              rw [hdf] at hlf Hline
              rw [hdt] at hlt2 Hline
              have HX := Lib.hid (And.intro g0 (And.intro g1 (And.intro g2 (And.intro g3 (And.intro x0 (And.intro x1 x2))))))
              have hZ : Below wr.heap.size wr wr.drew := (Below.refl _ _).drew
              clear hnames hrr hrs hdf hdt Hnum
              go_upto_region 15 with (fail)
              go_region_held3 (fun w' => w'.cell? ⟨w.heap.size, 0, none⟩ = some (.slice G.AT G.T.length G.cT) ∧ w'.cell? ⟨w.heap.size, 1, none⟩ = some (.slice G.AN G.N.length G.cN) ∧ w'.cell? ⟨w.heap.size, 2, none⟩ = some (.int .i64 G.ax) ∧ w'.cell? ⟨w.heap.size, 3, none⟩ = some (.slice G.AR G.R.length G.cR) ∧ w'.cell? ⟨bt, ot + k * 3, none⟩ = some (.int .i64 m)) (go_keep)
                (first
                  | (go_at_call 22; (with_reducible refine (Hrule.out _ hZ).mono ?_); rintro en w5 ⟨hb5, rfl⟩; have hZ' := hZ.trans (hb5.mono hZ.size); clear hZ; have hZ := hZ'; clear hZ'; have e0 := (hZ.cell (p := ⟨w.heap.size, 0, none⟩) hlgi).trans HX.out.1; have e1 := (hZ.cell (p := ⟨w.heap.size, 1, none⟩) hlgi).trans HX.out.2.1; have e2 := (hZ.cell (p := ⟨w.heap.size, 2, none⟩) hlgi).trans HX.out.2.2.1; have e3 := (hZ.cell (p := ⟨w.heap.size, 3, none⟩) hlgi).trans HX.out.2.2.2.1; have e4 := (hZ.cell (p := ⟨bt, ot + k * 3, none⟩) hlbi).trans HX.out.2.2.2.2.1; have e5 := (hZ.cell (p := ⟨bt, ot + k * 3 + 1, none⟩) hlbi).trans HX.out.2.2.2.2.2.1; have e6 := (hZ.cell (p := ⟨bt, ot + k * 3 + 2, none⟩) hlbi).trans HX.out.2.2.2.2.2.2))
              have hb5 := hbi.trans (hZ.mono hzi)
              have ho5 := own_below hoi hZ (Nat.le_refl _)
              have hl5 := own_below hli hZ (Nat.le_refl _)
              have hz5 := hb5.size
              have HX5 := Lib.hid (And.intro e5 e6)
              have hlb5 : bt < w5.heap.size := by omega
              clear g0 g1 g2 g3 x0 x1 x2 e0 e1 e2 e3 e4 hoi hli hbi
              go_upto_region 16 with (fail)
              have HSz : Hid ((rs ++ ⟨#[32]⟩ ++ ⟨df.toArray⟩ ++ ⟨#[45]⟩ ++ ⟨dt.toArray⟩ ++ ⟨#[10]⟩ : ByteArray).size = rs.size + 1 + df.length + 1 + dt.length + 1) := Lib.hid (by simp only [ByteArray.size_append]; rfl)
              have hY : Below w5.heap.size w5 w5.drew := (Below.refl _ _).drew
              have hA1 : ¬ 9223372036854775807 < rs.size + 1 := by omega
              have hA2 : ¬ 9223372036854775807 < rs.size + 1 + df.length := by omega
              have hA3 : ¬ 9223372036854775807 < rs.size + 1 + df.length + 1 := by omega
              have hA4 : ¬ 9223372036854775807 < rs.size + 1 + df.length + 1 + dt.length := by omega
              have hA5 : ¬ 9223372036854775807 < rs.size + 1 + df.length + 1 + dt.length + 1 := by omega
              go_region_held3 (fun w' => w'.cell? ⟨bt, ot + k * 3 + 1, none⟩ = some (.int .i64 fu) ∧ w'.cell? ⟨bt, ot + k * 3 + 2, none⟩ = some (.int .i64 tu)) (go_keep)
                (first
                  | (go_at_call 23; (with_reducible refine (Hnf.out _).mono ?_); rintro en w6 ⟨hb6, rfl⟩; have hY' := hY.trans (hb6.mono hY.size); clear hY; have hY := hY'; clear hY'; have f5 := (hY.cell (p := ⟨bt, ot + k * 3 + 1, none⟩) hlb5).trans HX5.out.1; have f6 := (hY.cell (p := ⟨bt, ot + k * 3 + 2, none⟩) hlb5).trans HX5.out.2)
                  | (go_at_call 23; (with_reducible refine (Hnt.out _).mono ?_); rintro en w7 ⟨hb7, rfl⟩; have hY' := hY.trans (hb7.mono hY.size); clear hY; have hY := hY'; clear hY'; have f7 := (hY.cell (p := ⟨bt, ot + k * 3 + 1, none⟩) hlb5).trans HX5.out.1; have f8 := (hY.cell (p := ⟨bt, ot + k * 3 + 2, none⟩) hlb5).trans HX5.out.2; have ho7 := own_below ho5 hY (Nat.le_refl _); have hl7 := own_below hl5 hY (Nat.le_refl _); have hz7 := hY.size)
                  | (refine step_append_str rfl _ _ 48 9 rfl w2.heap.size 5 u0 Tryz.underlying48 Tryz.underlying9 hu hz0 hz1 hz2 (.slice A2 n2 c2) n2 _ rfl ho7 (rs ++ ⟨#[32]⟩ ++ ⟨df.toArray⟩ ++ ⟨#[45]⟩ ++ ⟨dt.toArray⟩ ++ ⟨#[10]⟩) rfl (by rw [HSz.out]; unfold maxLen; omega) (by rw [HSz.out]; omega) (by omega) ?_; intro v8 w8 ho8 hg8; obtain ⟨A8, c8, rfl⟩ := own_form ho8; have hb8 := (hb5.trans (hY.mono hz5)).grown hg8 (by omega) (fun j hj => (ho7.lt j hj).1); have hl8 := own_kept hl7 ho7 (by decide) hg8; have f9 := (hb8.cell (p := ⟨bt, ot + k * 3 + 1, none⟩) hbt).trans y1; have f10 := (hb8.cell (p := ⟨bt, ot + k * 3 + 2, none⟩) hbt).trans y2))
              rw [HSz.out] at ho8
              obtain ⟨n8, hn8⟩ : ∃ n8, n2 + (rs.size + 1 + df.length + 1 + dt.length + 1) = n8 := ⟨_, rfl⟩
              rw [hn8] at ho8
              rw [hn8]
              obtain ⟨out3, hout3⟩ : ∃ out3, out ++ flatB (lineL G.T G.N (Rl.p G.R[m]) (m, fu, tu) left.length) = out3 := ⟨_, rfl⟩
              rw [hout3] at HS2
              have hoo8 : w8.ownsRow w2.heap.size 5 1 (.slice A8 n8 c8) n8 (Lib.byteCells out3) := by
                have hh := Hline.out
                simp only [Rl.p] at hout3
                rw [hout3] at hh
                rw [← hh, byteCells_append]; exact ho8
              have hn83 : out3.length = n8 := by have := hoo8.1; rw [byteCells_length] at this; omega
              have Hn83 := Lib.hid hn83
              have hz8 := hb8.size
              clear hn8 ho8 hout3 hn83 f5 f6 f7 f8 f9 f10 ho7 hl7 ho5 hl5 hA1 hA2 hA3 hA4 hA5 hg8 hY hZ e5 e6 hb5
              by_cases hbig : 1048576 < n8
              · have HE := Lib.hid (Hnone.out (by rw [HS2.out, if_pos (by rw [Hn83.out]; exact hbig)]))
                go_wp2_with fail
                exact bodyPost_ret (v := .tuple #[.string ⟨#[]⟩, .int .i64 12, .int .i64 (-1)]) (by simp [results, Tryz.results7, go_sem]) rfl ⟨hbw2.trans (hb8.mono hbw2.size), by rw [HE.out]; rfl⟩
              · have HS3 : Hid (stepR G.T G.N (G.R.map Rl.p) ⟨out, left⟩ tree[k] = some ⟨out3, popz (neg G.R[m].right :: decL left)⟩) := Lib.hid (by rw [HS2.out, if_neg (by rw [Hn83.out]; exact hbig)])
                have hDb : decide ((1048576 : Int) < n8) = false := decide_eq_false (by omega)
                go_upto_if 90 with (fail)
                go_cut [] (fun wx => Below w2.heap.size w2 wx ∧ wx.ownsRow w2.heap.size 5 1 (.slice A8 n8 c8) n8 (Lib.byteCells out3) ∧ wx.ownsRow w2.heap.size 3 1 (.slice Al left.length cl) left.length (leftCells (decL left)))
                case first =>
                  rcases left with _ | ⟨x, L⟩
                  · simp only [List.length_nil] at *
                    go_wp2_with fail
                    go_meet
                    exact ⟨hb8, hoo8, hl8⟩
                  · have hx1 := Htop.out x L rfl
                    have hx32 := H32.out x (by simp)
                    rw [leftCells_cons] at hl8
                    simp only [List.length_cons] at *
                    obtain ⟨gl, rfl, hgl, hgl2, z1, zf⟩ := own_lastI hl8
                    go_wp2_with fail
                    go_meet
                    obtain ⟨s1, s2⟩ := hl8.stored L.length (.int .i64 ((x - 1 : Nat) : Int))
                    have hset : (leftCells L ++ [Value.int .i64 (x : Int)]).set L.length (Value.int .i64 ((x - 1 : Nat) : Int)) = leftCells (decL (x :: L)) := by
                      simp only [decL, leftCells_cons]
                      rw [List.set_append_right _ _ (by rw [leftCells_length]; omega), leftCells_length, Nat.sub_self]; rfl
                    rw [hset] at s1
                    have hxe : ((x - 1 : Nat) : Int) = (x : Int) - 1 := by omega
                    rw [hxe] at s1 s2
                    exact ⟨hb8.setCell hgl _, own_kept hoo8 hl8 (by decide) s2, s1⟩
                case rest =>
                  obtain ⟨hbc, hoc, hlc⟩ := hcut
                  have hzc := hbc.size
                  have hgr := HGk.out.below hbc hlg
                  have g3 := hgr.cell 3
                  simp only [List.getElem?_toArray, List.getElem?_cons_zero, List.getElem?_cons_succ] at g3
                  have x0 := (hbc.cell (p := ⟨bt, ot + k * 3, none⟩) hbt).trans y0
                  obtain ⟨bR, oR, hAR, hbR, p0, p1⟩ := (HG2.out.below hbc).r.at_ hr1
                  rw [hAR] at g3
                  have hrow := ((HG2.out.below hbc).r.each _ (List.getElem_mem hr1)).1
                  have hrc := (HG2.out.below hbc).r.cap
                  have hlgc : w.heap.size < wc.heap.size := Nat.lt_of_lt_of_le hlg hzc
                  obtain ⟨rr, Hrr⟩ : ∃ rr, Hid (G.R[m].right = rr) := ⟨_, Lib.hid rfl⟩
                  obtain ⟨rA, HrA⟩ : ∃ rA, Hid (G.R[m].A = rA) := ⟨_, Lib.hid rfl⟩
                  obtain ⟨rc, Hrc⟩ : ∃ rc, Hid (G.R[m].c = rc) := ⟨_, Lib.hid rfl⟩
                  rw [Hrr.out] at p1 hrow HS3 hr32
                  rw [HrA.out] at p1 hrow
                  rw [Hrc.out] at p1
                  clear hb8 hoo8 hl8 hAR
                  go_wp2_with fail
                  go_quiet (fail)
                  go_wp2_with fail
                  go_loop [18, 20] (fun kd j => ∃ q : Nat, q ≤ rr.length ∧ j = .int .i64 q ∧ kd = .int .i64 (neg (rr.take q))) (fun _ j => rr.length - (intOf j).toNat)
                  case atStart => exact ⟨0, Nat.zero_le _, rfl, rfl⟩
                  case round =>
                    obtain ⟨q, hq, rfl, rfl⟩ := hrel
                    by_cases hql : q < rr.length
                    · obtain ⟨b3, o3, rfl, hb3, hc3⟩ := hrow.at_ (k := q) (by simpa [nums] using hql)
                      have hcx : wc.cell? ⟨b3, o3 + q, none⟩ = some (.int .i64 rr[q]) := by rw [hc3 _ (by simpa [nums] using hql)]; simp [nums]
                      have hnl : neg (rr.take q) ≤ 32 := Nat.le_trans (neg_le _) (by rw [List.length_take]; omega)
                      have Hnx : Hid (neg (rr.take (q + 1)) = neg (rr.take q) + if rr[q] < 0 then 1 else 0) := Lib.hid (by
                        rw [List.take_succ_eq_append_getElem hql, neg, neg, List.countP_append]
                        by_cases hx : rr[q] < 0 <;> simp [hx])
                      obtain ⟨x, Hx⟩ : ∃ x, Hid (rr[q] = x) := ⟨_, Lib.hid rfl⟩
                      rw [Hx.out] at hcx Hnx
                      obtain ⟨nq0, Hnq0⟩ : ∃ nq0, Hid (neg (rr.take q) = nq0) := ⟨_, Lib.hid rfl⟩
                      rw [Hnq0.out] at hnl Hnx
                      rw [Hnq0.out]
                      clear hc3
                      by_cases hx : x < 0
                      · go_wp2_with fail
                        go_round
                        case rel => exact ⟨q + 1, by omega, by go_num, by rw [Hnx.out, if_pos hx]; go_num⟩
                        case measure => simp [intOf]; omega
                      · go_wp2_with fail
                        go_round
                        case rel => exact ⟨q + 1, by omega, by go_num, by rw [Hnx.out, if_neg hx]; rfl⟩
                        case measure => simp [intOf]; omega
                    · rw [List.take_of_length_le (by omega)]
                      obtain ⟨kd, Hkd⟩ : ∃ kd, Hid (neg rr = kd) := ⟨_, Lib.hid rfl⟩
                      rw [Hkd.out] at HS3
                      rw [Hkd.out]
                      have hkd32 : kd ≤ 32 := by rw [← Hkd.out]; exact Nat.le_trans (neg_le _) hr32
                      have hlc' := own_drewN hlc nq
                      have hoc' := own_drewN hoc nq
                      have hbc' := below_dN hbc nq
                      go_wp2_with (at_builtin; refine wpList_append_own _ rfl _ _ 43 rfl w2.heap.size 3 j0 _ 1 8 Tryz.underlying43 hj0 hj1 hj2 hj3 rfl (by decide) (.slice Al left.length cl) left.length _ rfl (hlc'.alloc _) ⟨wc.heap.size, 0, none⟩ 1 1 [.int .i64 (kd : Int)] rfl rfl (World.news_of_block (heap_alloc_new (wc.drewN nq) _)) (by intro u hu; simp at hu; subst hu; rfl) (by unfold maxLen; omega) (by omega) (by simp; omega) ?_; intro v9 w9 ho9 hg9 _; obtain ⟨A9, c9, rfl⟩ := own_form ho9)
                      have hb9 : Below w2.heap.size w2 w9 := (hbc'.alloc (by simpa using hzc) _).grown hg9 (by simp; omega) (fun j hj => (hlc'.lt j hj).1)
                      have hoo9 := own_kept (hoc'.alloc _) (hlc'.alloc _) (by decide) hg9
                      have hL9 : w9.ownsRow w2.heap.size 3 1 (.slice A9 (left.length + 1) c9) (left.length + 1) (leftCells (kd :: decL left)) := by rw [leftCells_cons]; exact ho9
                      have HB9 := Lib.hid hb9
                      have HO9 := Lib.hid hoo9
                      have HL9 := Lib.hid hL9
                      clear hb9 hoo9 hL9 ho9 hg9 hlc' hoc' hbc' hlc hoc hbc
                      have H33 : Hid (∀ x ∈ kd :: decL left, x ≤ 32) := Lib.hid fun x hx => by
                        rcases List.mem_cons.1 hx with rfl | hx
                        · exact hkd32
                        · exact decL_le H32.out x hx
                      go_loop [13] (fun v => ∃ L', v = .slice A9 L'.length c9 ∧ popz L' = popz (kd :: decL left) ∧ w9.ownsRow w2.heap.size 3 1 (.slice A9 L'.length c9) L'.length (leftCells L') ∧ L'.length ≤ left.length + 1 ∧ ∀ x ∈ L', x ≤ 32) (fun v => lenOf v)
                      case atStart => exact ⟨kd :: decL left, by rw [List.length_cons, decL_len], rfl, by rw [List.length_cons, decL_len]; exact HL9.out, by rw [List.length_cons, decL_len]; omega, H33.out⟩
                      case round =>
                        obtain ⟨L', rfl, hpz, hoM, hll', hM32⟩ := hrel
                        rcases L' with _ | ⟨y, M⟩
                        · have Hpz : Hid (([] : List Nat) = popz (kd :: decL left)) := Lib.hid (by rw [← hpz]; rfl)
                          have HoM := Lib.hid hoM
                          have HM32 := Lib.hid hM32
                          clear hpz hoM hM32
                          simp only [List.length_nil] at *
                          go_wp2_with fail
                          go_roundw
                          case rel =>
                            refine ⟨k + 1, ⟨out3, []⟩, A8, A9, c8, c9, by omega, by go_num, by rw [Hn83.out], rfl, HB9.out, by rw [Hn83.out]; exact HO9.out, HoM.out, fold_next hlt Hfold.out (by rw [HS3.out]; exact congrArg (fun l => some (Rs.mk out3 l)) Hpz.out.symm), by rw [Hn83.out]; omega, by simp, HM32.out, fun x m h => by simp at h⟩
                          case measure => simp [intOf]; omega
                        · rw [leftCells_cons] at hoM
                          simp only [List.length_cons] at *
                          obtain ⟨gl, rfl, hgl, hgl2, z1, zf⟩ := own_lastI hoM
                          have hcp := own_cap hoM
                          by_cases hy : y = 0
                          · subst hy
                            have Hpz : Hid (popz M = popz (kd :: decL left)) := Lib.hid (by rw [← hpz, popz_zero])
                            have HoM := Lib.hid (own_cut hoM rfl)
                            have HM32 := Lib.hid fun x (hx : x ∈ M) => hM32 x (List.mem_cons_of_mem _ hx)
                            clear hpz hoM hM32
                            go_wp2_with fail
                            go_round
                            case rel => exact ⟨M, rfl, Hpz.out, HoM.out, by omega, HM32.out⟩
                            case measure => simp [lenOf]
                          · have hy1 : ((y : Int) == 0) = false := by rw [beq_eq_false_iff_ne]; omega
                            have Hpz : Hid (y :: M = popz (kd :: decL left)) := Lib.hid (by rw [← hpz]; obtain ⟨z, rfl⟩ : ∃ z, y = z + 1 := ⟨y - 1, by omega⟩; rw [popz_succ])
                            have Hy := Lib.hid hy
                            have HoM : Hid (w9.ownsRow w2.heap.size 3 1 (.slice (some ⟨gl, 0, none⟩) (M.length + 1) c9) (M.length + 1) (leftCells (y :: M))) := Lib.hid (by rw [leftCells_cons]; exact hoM)
                            have HM32 := Lib.hid hM32
                            clear hpz hoM hM32 hy
                            go_wp2_with fail
                            go_roundw
                            case rel =>
                              refine ⟨k + 1, ⟨out3, y :: M⟩, A8, some ⟨gl, 0, none⟩, c8, c9, by omega, by go_num, by rw [Hn83.out], rfl, HB9.out, by rw [Hn83.out]; exact HO9.out, HoM.out, fold_next hlt Hfold.out (by rw [HS3.out]; exact congrArg (fun l => some (Rs.mk out3 l)) Hpz.out.symm), by rw [Hn83.out]; omega, by simp only [List.length_cons]; omega, HM32.out, fun x m h => by simp only [List.cons.injEq] at h; have := Hy.out; omega⟩
                            case measure => simp [intOf]; omega
      · have Hall : Hid (runR G.T G.N (G.R.map Rl.p) tree = some ⟨out, left⟩) := Lib.hid (by
          have := Hfold.out
          rw [List.take_of_length_le (by omega)] at this
          exact this)
        have HE : Hid (treeF G.T G.N G.ax (G.R.map Rl.p) tree = .ok ⟨out.toArray⟩) := Lib.hid (by
          have h2 := HR.out
          rw [Hall.out] at h2
          by_cases hbad : d.bad
          · rw [if_pos hbad] at h2; cases h2
          · rw [if_neg hbad] at h2
            simp only [Option.some.injEq, Rs.mk.injEq] at h2
            rw [HF.out, if_neg hbad, h2.1])
        have hcv := conv_own hoo rfl
        go_wp2_with fail
        exact bodyPost_ret (v := .tuple #[.string ⟨out.toArray⟩, .int .i64 0, .int .i64 (-1)]) (by simp [results, Tryz.results7, go_sem]) rfl ⟨hbw, by rw [HE.out]; rfl⟩
end Go.Proofs.YtoidecclimhgjaaGreatDoor
