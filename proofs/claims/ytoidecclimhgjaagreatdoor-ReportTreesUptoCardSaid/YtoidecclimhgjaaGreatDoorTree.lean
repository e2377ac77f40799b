/- report.Tree. -/
import Derived.Test.YtoidecclimhgjaaGreatDoorDown
import Derived.Laws.EntriesVeiled
namespace Go.Proofs.YtoidecclimhgjaaGreatDoor
open Go.RowKit

theorem down_any (e : Nat → Addr) (w0 : World) (hE : GE w0 e) (G : GV) (hG : G.In w0 w0.heap.size) (hok : G.err = .ok) (A : Option Addr) (c : Nat) (tree : List (Int × Int × Int)) (hr : Row w0 w0.heap.size A (stepCells tree)) (htl : tree.length ≤ 131072)
    (htab : Lib.TabIs Tryz.prog w0 "internal/strconv.uint64pow10" .u64 Lib.pow10Tab)
    (ht : ∀ s ∈ tree, (-9223372036854775808 ≤ s.2.1 ∧ s.2.1 ≤ 9223372036854775807) ∧ -9223372036854775808 ≤ s.2.2 ∧ s.2.2 ≤ 9223372036854775807)
    (gb tb : Nat) (hgb : gb < w0.heap.size) (htb : tb < w0.heap.size) (hgc : Blk w0 gb 25 G.cells) (htc : Blk w0 tb 26 #[.slice A tree.length c])
    (rest : List Value) (hrest : rest.length = 5) (fv : Value) (k : Nat)
    (hfv : fv = .func (.func 14) #[] #[.pointer (some ⟨tb, 0, none⟩), .pointer (some ⟨w0.heap.size + 2, 0, none⟩), .pointer (some ⟨w0.heap.size + 3, 0, none⟩), .pointer (some ⟨w0.heap.size + 1, 0, none⟩), .pointer (some ⟨gb, 0, none⟩), .pointer (some ⟨w0.heap.size + 4, 0, none⟩)]) :
    ∀ (d d' : Dn) (deep : Nat) (w : World), Below w0.heap.size w0 w → Dw w w0.heap.size rest fv d → downF G.T G.N (G.R.map Rl.p) tree k d deep = some d' → d.bs.length ≤ 1073741824 → deep + k ≤ 2097152 →
      Calls Tryz.prog 14 #[.int .i64 deep, .pointer (some ⟨tb, 0, none⟩), .pointer (some ⟨w0.heap.size + 2, 0, none⟩), .pointer (some ⟨w0.heap.size + 3, 0, none⟩), .pointer (some ⟨w0.heap.size + 1, 0, none⟩), .pointer (some ⟨gb, 0, none⟩), .pointer (some ⟨w0.heap.size + 4, 0, none⟩)] w (DownEnd w0.heap.size rest fv w d') := by
  induction k with
  | zero => intro d d' deep w _ _ h; simp [downF] at h
  | succ k ih =>
    intro d d' deep w hb hd hdn hbs hdk
    exact down_good e w0 hE G hG hok A c tree hr htl htab ht gb tb hgb htb hgc htc rest hrest fv k hfv ih d d' deep w hb hd hdn hbs hdk

theorem down_mono {T N : List ByteArray} {R : List (Int × List Int)} {tree : List (Int × Int × Int)} (k : Nat) : ∀ (d d' : Dn) (deep : Nat), downF T N R tree k d deep = some d' → d.bs.length ≤ d'.bs.length ∧ (d.long = false → 1048576 < d.bs.length + 2 * deep ∨ d.bs.length < d'.bs.length) := by
  induction k with
  | zero => intro d d' deep h; simp [downF] at h
  | succ k ih =>
    intro d d' deep h
    simp only [downF] at h
    split at h
    · simp at h
    rename_i s hs
    split at h
    · simp at h
    split at h
    · simp at h
    rename_i r hr
    have key : ∀ (l : List Int) (a b : Dn), l.foldlM (fun d x => if x < 0 then downF T N R tree k d (deep + 1) else some d) a = some b → a.bs.length ≤ b.bs.length := by
      intro l
      induction l with
      | nil => intro a b hab; simp at hab; subst hab; exact Nat.le_refl _
      | cons x l ihl =>
        intro a b hab
        simp only [List.foldlM_cons, Option.bind_eq_bind, Option.bind_eq_some_iff] at hab
        obtain ⟨a1, h1, h2⟩ := hab
        split at h1
        · exact Nat.le_trans (ih _ _ _ h1).1 (ihl a1 b h2)
        · cases h1; exact ihl _ b h2
    have h1 := key _ _ _ h
    unfold Dn.enter at h1
    split at h1
    · rename_i hl
      exact ⟨h1, fun h0 => .inl (by simpa [h0] using hl)⟩
    · simp only [List.length_append, flatB, lineL, List.flatMap_cons, List.flatMap_nil, List.length_cons, List.length_nil, List.append_nil] at h1
      exact ⟨by omega, fun _ => .inr (by omega)⟩

/-- The text of a tree, or what is wrong. -/
def treeF (T N : List ByteArray) (ax : Int) (R : List (Int × List Int)) (tree : List (Int × Int × Int)) : Except Er ByteArray :=
  match knownF T N ax R tree with
  | .error er => .error er
  | .ok _ => match downF T N R tree (tree.length + 1) ⟨0, false, []⟩ 0 with
    | none => .error (.kind 11)
    | some d => if d.long = true ∨ 1048576 < d.bs.length then .error (.kind 12) else .ok ⟨d.bs.toArray⟩

def TreeEnd (e : Nat → Addr) (w : World) (r : Except Er ByteArray) (en : Ending) (w' : World) : Prop :=
  Below w.heap.size w w' ∧ match r with
    | .ok s => en = .returned (.tuple #[.string s, .nilIface])
    | .error er => ∃ v, en = .returned (.tuple #[.string ⟨#[]⟩, v]) ∧ er ≠ .ok ∧ ErIs w' e v er

theorem knownF_ok {T N : List ByteArray} {ax : Int} {R : List (Int × List Int)} {tree : List (Int × Int × Int)} {s : St} (h : knownF T N ax R tree = .ok s) :
    mayErr T N ax R tree.length = .ok ∧ ∃ x, tree[0]? = some x ∧ 0 ≤ x.2.1 ∧ x.2.1 ≤ x.2.2 ∧ walkF R (tree.map (·.1)) 0 x.2.1 true = some s ∧ s.tree = tree := by
  unfold knownF at h
  split at h
  · cases h
  rename_i h1
  simp only [ne_eq, Decidable.not_not] at h1
  split at h
  · cases h
  rename_i x tl
  split at h
  · cases h
  split at h
  · cases h
  rename_i h2 _ s' hs'
  split at h
  · rename_i h3
    cases h
    exact ⟨h1, x, rfl, by omega, by omega, hs', h3⟩
  · cases h
theorem known_down {T N : List ByteArray} {ax : Int} {R : List (Int × List Int)} {tree : List (Int × Int × Int)} {s : St} (h : knownF T N ax R tree = .ok s) : ∃ d, downF T N R tree (tree.length + 1) ⟨0, false, []⟩ 0 = some d ∧ d.at_ = tree.length := by
  obtain ⟨_, x, _, _, _, hw, _⟩ := knownF_ok h
  unfold walkF at hw
  rw [Option.bind_eq_some_iff] at hw
  obtain ⟨s1, h1, h2⟩ := hw
  rw [List.length_map] at h1 h2
  obtain ⟨d, h3, h4⟩ := down_node (T := T) (N := N) rfl _ _ _ _ _ _ ⟨0, false, []⟩ 0 h1 rfl
  refine ⟨d, h3, ?_⟩
  split at h2
  · cases h2
  · rename_i hlt
    have hn : ∀ r ∈ R, r.2.length ≤ 32 := fun r hr => ((may_ok (knownF_ok h).1).1.each r hr).1
    have := nodeF_fit R _ hn _ _ _ _ _ _ h1 rfl
    simp only [List.length_map] at this
    omega

set_option maxHeartbeats 4000000 in
set_option maxRecDepth 100000 in
theorem tree_any (e : Nat → Addr) (w : World) (hE : GE w e) (G : GV) (hG : G.In w w.heap.size) (A : Option Addr) (c : Nat) (tree : List (Int × Int × Int)) (hr : Row w w.heap.size A (stepCells tree)) (htl : tree.length ≤ c) (hc : tree.length ≤ 140737488355328)
    (htab : Lib.TabIs Tryz.prog w "internal/strconv.uint64pow10" .u64 Lib.pow10Tab)
    (ht : ∀ s ∈ tree, (-9223372036854775808 ≤ s.2.1 ∧ s.2.1 ≤ 9223372036854775807) ∧ -9223372036854775808 ≤ s.2.2 ∧ s.2.2 ≤ 9223372036854775807) :
    Calls Tryz.prog 6 #[G.val, .slice A tree.length c] w (TreeEnd e w (treeF G.T G.N G.ax (G.R.map Rl.p) tree)) := by
  have bw : Below w.heap.size w ((w.alloc (.cells G.cells 25)).alloc (.cells #[.slice A tree.length c] 26)) := ((Below.refl _ _).alloc (Nat.le_refl _) _).alloc (by simp) _
  have hru := rules_any e _ (hE.below bw) G ((hG.below bw).more bw.size) A c tree ((hr.below bw).more bw.size) htl hc
  have Hru := Lib.hid hru
  clear hru
  go_enter Tryz.func6, Tryz.ntmps6
  go_wp2_with fail
  refine Hru.out.mono ?_
  rintro en w1 ⟨hb1, h⟩
  clear Hru
  cases hk : knownF G.T G.N G.ax (G.R.map Rl.p) tree with
  | error er =>
    rw [hk] at h
    obtain ⟨v, rfl, hne, hv⟩ := h
    have Hk := Lib.hid hk
    clear hk
    rcases hv.form with ⟨h0, _⟩ | ⟨_, t, x, rfl⟩
    · exact absurd h0 hne
    · go_wp2_with fail
      go_ret2
      exact ⟨bw.trans (hb1.mono bw.size), by unfold treeF; rw [Hk.out]; exact ⟨_, rfl, hne, hv⟩⟩
  | ok s =>
    rw [hk] at h
    obtain ⟨A', c', rfl, _⟩ := h
    obtain ⟨hmay, _⟩ := knownF_ok hk
    have hgok : G.err = .ok := by
      unfold mayErr at hmay
      unfold GV.err
      split at hmay
      · rename_i h1; exact absurd hmay h1
      · rename_i h1; simpa using h1
    obtain ⟨d, hd, _⟩ := known_down hk
    obtain ⟨hck, hst, _⟩ := may_ok hmay
    have Hk := Lib.hid hk
    have Hd := Lib.hid hd
    clear hk hd
    have hbw := bw.trans (hb1.mono bw.size)
    have hgb : w.heap.size < w1.heap.size := by have := hb1.size; simp at this; omega
    have htb : w.heap.size + 1 < w1.heap.size := by have := hb1.size; simp at this; omega
    have hG1 : Blk w1 w.heap.size 25 G.cells := ((Blk.new w _ _).alloc _).below hb1 (by simp; omega)
    have hT1 : Blk w1 (w.heap.size + 1) 26 #[.slice A tree.length c] := by
      have := Blk.below (B := ((w.alloc (.cells G.cells 25)).alloc (.cells #[.slice A tree.length c] 26)).heap.size) (Blk.new (w.alloc (.cells G.cells 25)) 26 #[.slice A tree.length c]) hb1 (by simp)
      simpa using this
    have g0 := hG1.cell 0; have g1 := hG1.cell 1; have g2 := hG1.cell 2; have g3 := hG1.cell 3
    simp only [List.getElem?_toArray, List.getElem?_cons_zero, List.getElem?_cons_succ] at g0 g1 g2 g3
    obtain ⟨fv, hfv⟩ : ∃ fv : Value, fv = .func (.func 14) #[] #[.pointer (some ⟨w.heap.size + 1, 0, none⟩), .pointer (some ⟨w1.heap.size + 2, 0, none⟩), .pointer (some ⟨w1.heap.size + 3, 0, none⟩), .pointer (some ⟨w1.heap.size + 1, 0, none⟩), .pointer (some ⟨w.heap.size, 0, none⟩), .pointer (some ⟨w1.heap.size + 4, 0, none⟩)] := ⟨_, rfl⟩
    have hdown := down_any e w1 (hE.below hbw) G ((hG.below hbw).more hbw.size) hgok A c tree ((hr.below hbw).more hbw.size) (by omega) (Lib.tabBelow_of_tabIs htab w1 hbw) ht w.heap.size (w.heap.size + 1) hgb htb hG1 hT1
      [.slice G.AT G.T.length G.cT, .slice G.AN G.N.length G.cN, .int .i64 G.ax, .slice G.AR G.R.length G.cR, .pointer none] rfl fv (tree.length + 1) hfv ⟨0, false, []⟩ d 0
    have hcall := hdown (((((w1.alloc (.cells #[.pointer none, .slice none 0 0, .slice G.AT G.T.length G.cT, .slice G.AN G.N.length G.cN, .int .i64 G.ax, .slice G.AR G.R.length G.cR, .pointer none] 53)).alloc (.cells #[.pointer (some ⟨w1.heap.size, 0, none⟩)] 46)).alloc (.cells #[.int .i64 0] 3)).alloc (.cells #[.bool false] 4)).alloc (.cells #[fv] 54))
      (((((((Below.refl _ _).alloc (Nat.le_refl _) _).alloc (by simp) _).alloc (by simp; omega) _).alloc (by simp; omega) _).alloc (by simp; omega) _))
      ⟨((((Bld.fresh w1 53 _).alloc _).alloc _).alloc _).alloc _, by have := (((Blk.new (w1.alloc (.cells #[.pointer none, .slice none 0 0, .slice G.AT G.T.length G.cT, .slice G.AN G.N.length G.cN, .int .i64 G.ax, .slice G.AR G.R.length G.cR, .pointer none] 53)) 46 #[.pointer (some ⟨w1.heap.size, 0, none⟩)]).alloc (.cells #[.int .i64 0] 3)).alloc (.cells #[.bool false] 4)).alloc (.cells #[fv] 54); simpa using this,
        by have := ((Blk.new ((w1.alloc (.cells #[.pointer none, .slice none 0 0, .slice G.AT G.T.length G.cT, .slice G.AN G.N.length G.cN, .int .i64 G.ax, .slice G.AR G.R.length G.cR, .pointer none] 53)).alloc (.cells #[.pointer (some ⟨w1.heap.size, 0, none⟩)] 46)) 3 #[.int .i64 0]).alloc (.cells #[.bool false] 4)).alloc (.cells #[fv] 54); simpa using this,
        by have := (Blk.new (((w1.alloc (.cells #[.pointer none, .slice none 0 0, .slice G.AT G.T.length G.cT, .slice G.AN G.N.length G.cN, .int .i64 G.ax, .slice G.AR G.R.length G.cR, .pointer none] 53)).alloc (.cells #[.pointer (some ⟨w1.heap.size, 0, none⟩)] 46)).alloc (.cells #[.int .i64 0] 3)) 4 #[.bool false]).alloc (.cells #[fv] 54); simpa using this,
        by have := Blk.new ((((w1.alloc (.cells #[.pointer none, .slice none 0 0, .slice G.AT G.T.length G.cT, .slice G.AN G.N.length G.cN, .int .i64 G.ax, .slice G.AR G.R.length G.cR, .pointer none] 53)).alloc (.cells #[.pointer (some ⟨w1.heap.size, 0, none⟩)] 46)).alloc (.cells #[.int .i64 0] 3)).alloc (.cells #[.bool false] 4)) 54 #[fv]; simpa using this⟩ Hd.out (by simp) (by omega)
    have Hdl := Lib.hid (down_le (T := G.T) (N := G.N) (R := G.R.map Rl.p) (tree := tree) (fun x hx => (List.mem_append.1 hx).elim (names_le hck.nt x) (names_le hck.nn x)) (fun r hr => (hck.each r hr).1) ht _ _ _ _ Hd.out (by simp))
    have Hcall := Lib.hid hcall
    rw [hfv] at Hcall
    clear hdown hfv hcall hr hck
    have hen2 : Enters Tryz.prog 14 := enters_of Tryz.func14 (by kernel_rfl) rfl
    have eg : ∀ args w, (callFunc 14 args).run Tryz.prog w = .ok (.enter 14 args) w := hen2
    clear hen2
    go_wp2_with fail
    refine Hcall.out.mono ?_
    clear Hcall
    rintro en w2 ⟨rfl, hb2, hd2⟩
    have hE2 := hE.below (hbw.trans ((((((((Below.refl w1.heap.size w1).alloc (Nat.le_refl _) _).alloc (by simp) _).alloc (by simp; omega) _).alloc (by simp; omega) _).alloc (by simp; omega) _).trans hb2).mono hbw.size))
    have hbz := hbw.trans ((((((((Below.refl w1.heap.size w1).alloc (Nat.le_refl _) _).alloc (by simp) _).alloc (by simp; omega) _).alloc (by simp; omega) _).alloc (by simp; omega) _).trans hb2).mono hbw.size)
    have hz2 := hE2.size
    have z0 : 0 < w2.heap.size := by omega
    have s12 : gno 12 < w2.heap.size := Nat.lt_of_lt_of_le (gno_lt 12) hE2.size
    have c12 := hE2.cell 12 (by omega) (by omega)
    simp only [gno] at s12 c12
    have q1 := hd2.wv.cell 0; have l1 := hd2.wv.lt
    have q3 := hd2.long.cell 0; have l3 := hd2.long.lt
    simp only [List.getElem?_toArray, List.getElem?_cons_zero] at q1 q3
    have hdm := down_mono _ _ _ _ Hd.out
    have Hdm := Lib.hid hdm
    have Hd2 := Lib.hid hd2
    have Hlen : Hid (∀ (W : World), Bld W w1.heap.size w1.heap.size 53 [.slice G.AT G.T.length G.cT, .slice G.AN G.N.length G.cN, .int .i64 G.ax, .slice G.AR G.R.length G.cR, .pointer none] d.bs → Calls Tryz.prog 15 #[.pointer (some ⟨w1.heap.size, 0, none⟩)] W (Quiet W (.int .i64 d.bs.length))) := Lib.hid fun W h => builderLen_any 53 _ _ _ d.bs W h
    clear hdm hd2 hE2 hb2
    cases hlo : d.long with
    | true =>
      rw [hlo] at q3
      have HF : Hid (treeF G.T G.N G.ax (G.R.map Rl.p) tree = .error (.kind 12)) := Lib.hid (by unfold treeF; rw [Hk.out]; simp only [Hd.out, hlo, true_or, if_true])
      clear hlo
      go_wp2_with fail
      go_quiet (fail)
      go_wp2_with fail
      go_ret2
      exact ⟨below_dN hbz _, by rw [HF.out]; exact ⟨_, rfl, by simp, by omega, by omega, rfl⟩⟩
    | false =>
      rw [hlo] at q3
      have Hlo := Lib.hid hlo
      clear hlo
      by_cases hlen : 1048576 < d.bs.length
      · have HF : Hid (treeF G.T G.N G.ax (G.R.map Rl.p) tree = .error (.kind 12)) := Lib.hid (by unfold treeF; rw [Hk.out]; simp only [Hd.out, hlen, or_true, if_true])
        have hD : decide ((1048576 : Int) < d.bs.length) = true := decide_eq_true (by omega)
        go_wp2_with fail
        refine (Hlen.out _ Hd2.out.bld).mono ?_
        rintro en w3 ⟨rfl, q, rfl⟩
        go_wp2_with fail
        go_quiet (fail)
        go_wp2_with fail
        go_ret2
        exact ⟨below_dN (below_dN hbz _) _, by rw [HF.out]; exact ⟨_, rfl, by simp, by omega, by omega, rfl⟩⟩
      · have HF : Hid (treeF G.T G.N G.ax (G.R.map Rl.p) tree = .ok ⟨d.bs.toArray⟩) := Lib.hid (by unfold treeF; rw [Hk.out]; simp only [Hd.out, hlen, Hlo.out, or_false]; rfl)
        have hD : decide ((1048576 : Int) < d.bs.length) = false := decide_eq_false (by omega)
        have hne : d.bs ≠ [] := by
          intro h0
          have := Hdm.out.2 rfl
          rw [h0] at this
          simp at this
        have Hne := Lib.hid hne
        clear hne
        go_wp2_with fail
        refine (Hlen.out _ Hd2.out.bld).mono ?_
        rintro en w3 ⟨rfl, q, rfl⟩
        have Hst := Lib.hid (builderString_any 53 _ w1.heap.size w1.heap.size d.bs (w2.drewN q) (Hd2.out.bld.drewN q) Hne.out)
        go_wp2_with fail
        refine Hst.out.mono ?_
        rintro en w4 ⟨rfl, hb4⟩
        go_wp2_with fail
        go_ret2
        exact ⟨(below_dN hbz q).trans (hb4.mono hbw.size), by rw [HF.out]; rfl⟩
end Go.Proofs.YtoidecclimhgjaaGreatDoor
