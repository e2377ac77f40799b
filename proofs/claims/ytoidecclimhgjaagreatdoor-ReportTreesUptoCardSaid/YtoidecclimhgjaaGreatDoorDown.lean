/- report.Tree's writing of a step and of what stands below it. -/
import Derived.Test.YtoidecclimhgjaaGreatDoorPDown
import Derived.Test.YtoidecclimhgjaaGreatDoorKnown
import Derived.Deep.RegionHeld3
import Derived.Deep.DeepCutAuto
import Derived.Lib.AppendIntMem
namespace Go.Proofs.YtoidecclimhgjaaGreatDoor
open Go.RowKit

theorem below_grow (w : World) (q : Nat) (os : Array Obj) : Below w.heap.size w (Sort.grow (w.drewN q) os) :=
  ⟨rfl, rfl, rfl, by show w.heap.size ≤ (w.heap ++ os).size; rw [Array.size_append]; omega, fun i hi => by
    show ((w.drewN q).heap ++ os)[i]? = _
    rw [Array.getElem?_append_left (by show i < w.heap.size; omega)]
    rfl⟩
theorem itoa_below (n : Int) (h0 : -9223372036854775808 ≤ n) (h1 : n ≤ 9223372036854775807) (w0 w : World) (htab : Lib.TabIs Tryz.prog w0 "internal/strconv.uint64pow10" .u64 Lib.pow10Tab) (hb : Below w0.heap.size w0 w) :
    Calls Tryz.prog 19 #[.int .i64 n] w (RetV w (.string ⟨(Lib.itoa n).toArray⟩)) :=
  (itoa_any n h0 h1 w (Lib.tabBelow_of_tabIs htab w hb)).mono fun _ _ ⟨he, k, os, hw⟩ => ⟨hw ▸ below_grow w k os, he⟩
theorem names_le {l : List ByteArray} (h : namesOk l) : ∀ n ∈ l, n.size ≤ 1048576 := by
  intro n hn
  obtain ⟨i, hi, rfl⟩ := List.mem_iff_getElem.1 hn
  have := h i hi
  simp only [nameBad, not_or] at this
  omega
theorem Bld.far {w : World} {B g g' : Nat} {T t : TypeId} {rest : List Value} {bs : List UInt8} {cs : Array Value} (h : Bld w B g T rest bs) (hg : Blk w g' t cs) (hne : g ≠ g') (ht : 5 ≠ t) (i : Nat) (u : Value) : Bld (w.setCell ⟨g', i, none⟩ u) B g T rest bs := by
  obtain ⟨h1, p, A, c, hp, hB, ho⟩ := h
  exact ⟨h1, p, A, c, hp, hB.far (p := ⟨g', i, none⟩) hne u, own_setFar ho hg ht i u⟩
theorem Bld.drewN {w : World} {B g : Nat} {T : TypeId} {rest : List Value} {bs : List UInt8} (h : Bld w B g T rest bs) (n : Nat) : Bld (w.drewN n) B g T rest bs := h
theorem Bld.alloc {w : World} {B g : Nat} {T : TypeId} {rest : List Value} {bs : List UInt8} (h : Bld w B g T rest bs) (o : Obj) : Bld (w.alloc o) B g T rest bs :=
  h.below ((Below.refl w.heap.size w).alloc (Nat.le_refl _) o) (Nat.le_refl _)

/-- What the writing of a tree has in memory from block b on: the writer, its variable, the place, the mark, the function. -/
structure Dw (w : World) (b : Nat) (rest : List Value) (fv : Value) (d : Dn) : Prop where
  bld : Bld w b b 53 rest d.bs
  wv : Blk w (b + 1) 46 #[.pointer (some ⟨b, 0, none⟩)]
  at_ : Blk w (b + 2) 3 #[.int .i64 d.at_]
  long : Blk w (b + 3) 4 #[.bool d.long]
  fn : Blk w (b + 4) 54 #[fv]
theorem Dw.alloc {w : World} {b : Nat} {rest : List Value} {fv : Value} {d : Dn} (h : Dw w b rest fv d) (o : Obj) : Dw (w.alloc o) b rest fv d :=
  ⟨h.bld.alloc o, h.wv.alloc o, h.at_.alloc o, h.long.alloc o, h.fn.alloc o⟩
theorem Dw.below {w w' : World} {b : Nat} {rest : List Value} {fv : Value} {d : Dn} (h : Dw w b rest fv d) (hb : Below w.heap.size w w') : Dw w' b rest fv d :=
  ⟨h.bld.below hb (Nat.le_refl _), h.wv.below hb h.wv.lt, h.at_.below hb h.at_.lt, h.long.below hb h.long.lt, h.fn.below hb h.fn.lt⟩
theorem Dw.drewN {w : World} {b : Nat} {rest : List Value} {fv : Value} {d : Dn} (h : Dw w b rest fv d) (n : Nat) : Dw (w.drewN n) b rest fv d := ⟨h.bld, h.wv, h.at_, h.long, h.fn⟩

theorem Dw.setAt {w : World} {b : Nat} {rest : List Value} {fv : Value} {d : Dn} (h : Dw w b rest fv d) (n : Nat) (x : Int) (hx : x = n) : Dw (w.setCell ⟨b + 2, 0, none⟩ (.int .i64 x)) b rest fv ⟨n, d.long, d.bs⟩ := by
  subst hx
  refine ⟨h.bld.far h.at_ (by omega) (by decide) 0 _, h.wv.far (by simp) _, ?_, h.long.far (by simp) _, h.fn.far (by simp) _⟩
  have := h.at_.set_ 0 (.int .i64 n)
  simpa only [List.setIfInBounds_toArray, List.set_cons_zero] using this
theorem Dw.setLong {w : World} {b : Nat} {rest : List Value} {fv : Value} {d : Dn} (h : Dw w b rest fv d) (L : Bool) : Dw (w.setCell ⟨b + 3, 0, none⟩ (.bool L)) b rest fv ⟨d.at_, L, d.bs⟩ := by
  refine ⟨h.bld.far h.long (by omega) (by decide) 0 _, h.wv.far (by simp) _, h.at_.far (by simp) _, ?_, h.fn.far (by simp) _⟩
  have := h.long.set_ 0 (.bool L)
  simpa only [List.setIfInBounds_toArray, List.set_cons_zero] using this

def DownEnd (b : Nat) (rest : List Value) (fv : Value) (w : World) (d : Dn) (en : Ending) (w' : World) : Prop := en = .returned (.tuple #[]) ∧ Below b w w' ∧ Dw w' b rest fv d

set_option maxHeartbeats 4000000 in
set_option maxRecDepth 100000 in
theorem down_good (e : Nat → Addr) (w0 : World) (hE : GE w0 e) (G : GV) (hG : G.In w0 w0.heap.size) (hok : G.err = .ok) (A : Option Addr) (c : Nat) (tree : List (Int × Int × Int)) (hr : Row w0 w0.heap.size A (stepCells tree)) (htl : tree.length ≤ 131072)
    (htab : Lib.TabIs Tryz.prog w0 "internal/strconv.uint64pow10" .u64 Lib.pow10Tab)
    (ht : ∀ s ∈ tree, (-9223372036854775808 ≤ s.2.1 ∧ s.2.1 ≤ 9223372036854775807) ∧ -9223372036854775808 ≤ s.2.2 ∧ s.2.2 ≤ 9223372036854775807)
    (gb tb : Nat) (hgb : gb < w0.heap.size) (htb : tb < w0.heap.size) (hgc : Blk w0 gb 25 G.cells) (htc : Blk w0 tb 26 #[.slice A tree.length c])
    (rest : List Value) (hrest : rest.length = 5) (fv : Value) (k : Nat)
    (hfv : fv = .func (.func 14) #[] #[.pointer (some ⟨tb, 0, none⟩), .pointer (some ⟨w0.heap.size + 2, 0, none⟩), .pointer (some ⟨w0.heap.size + 3, 0, none⟩), .pointer (some ⟨w0.heap.size + 1, 0, none⟩), .pointer (some ⟨gb, 0, none⟩), .pointer (some ⟨w0.heap.size + 4, 0, none⟩)])
    (ih : ∀ (d d' : Dn) (deep : Nat) (w : World), Below w0.heap.size w0 w → Dw w w0.heap.size rest fv d → downF G.T G.N (G.R.map Rl.p) tree k d deep = some d' → d.bs.length ≤ 1073741824 → deep + k ≤ 2097152 →
      Calls Tryz.prog 14 #[.int .i64 deep, .pointer (some ⟨tb, 0, none⟩), .pointer (some ⟨w0.heap.size + 2, 0, none⟩), .pointer (some ⟨w0.heap.size + 3, 0, none⟩), .pointer (some ⟨w0.heap.size + 1, 0, none⟩), .pointer (some ⟨gb, 0, none⟩), .pointer (some ⟨w0.heap.size + 4, 0, none⟩)] w (DownEnd w0.heap.size rest fv w d'))
    (d d' : Dn) (deep : Nat) (w : World) (hb : Below w0.heap.size w0 w) (hd : Dw w w0.heap.size rest fv d) (hdn : downF G.T G.N (G.R.map Rl.p) tree (k + 1) d deep = some d') (hbs : d.bs.length ≤ 1073741824) (hdk : deep + (k + 1) ≤ 2097152) :
      Calls Tryz.prog 14 #[.int .i64 deep, .pointer (some ⟨tb, 0, none⟩), .pointer (some ⟨w0.heap.size + 2, 0, none⟩), .pointer (some ⟨w0.heap.size + 3, 0, none⟩), .pointer (some ⟨w0.heap.size + 1, 0, none⟩), .pointer (some ⟨gb, 0, none⟩), .pointer (some ⟨w0.heap.size + 4, 0, none⟩)] w (DownEnd w0.heap.size rest fv w d') := by
  simp only [downF] at hdn
  cases hs : tree[d.at_]? with
  | none => rw [hs] at hdn; cases hdn
  | some s =>
  rw [hs] at hdn
  simp only at hdn
  by_cases hn0 : s.1 < 0
  · rw [if_pos hn0] at hdn; cases hdn
  rw [if_neg hn0] at hdn
  obtain ⟨m, hm⟩ : ∃ m : Nat, s.1 = m := ⟨s.1.toNat, by omega⟩
  rw [hm, Int.toNat_natCast] at hdn
  cases hRm : (G.R.map Rl.p)[m]? with
  | none => rw [hRm] at hdn; cases hdn
  | some r =>
  rw [hRm] at hdn
  simp only at hdn
  have Hdn := Lib.hid hdn
  have IH := Lib.hid ih
  have HGok := Lib.hid hok
  have Hfv := Lib.hid hfv
  clear hdn ih hok hfv
  have hatl : d.at_ < tree.length := by rw [List.getElem?_eq_some_iff] at hs; exact hs.1
  obtain ⟨bt, ot, rfl, hbt, y0, y1, y2⟩ := (hr.below hb).steps hatl
  have hst : tree[d.at_] = s := by rw [List.getElem?_eq_some_iff] at hs; exact hs.2
  rw [hst] at y0 y1 y2
  rw [hm] at y0
  have Hs := Lib.hid hs
  have HRm := Lib.hid hRm
  clear hs hRm hst hn0
  have q2 := hd.at_.cell 0; have f2 := hd.at_.frozen 0; have l2 := hd.at_.lt
  have q1 := hd.wv.cell 0; have l1 := hd.wv.lt
  have q3 := hd.long.cell 0; have f3 := hd.long.frozen 0; have l3 := hd.long.lt
  have q4 := hd.fn.cell 0; have l4 := hd.fn.lt
  have t0 := (htc.below hb htb).cell 0
  have g0 := (hgc.below hb hgb).cell 0; have g1 := (hgc.below hb hgb).cell 1; have g2 := (hgc.below hb hgb).cell 2; have g3 := (hgc.below hb hgb).cell 3
  simp only [List.getElem?_toArray, List.getElem?_cons_zero, List.getElem?_cons_succ] at q1 q2 q3 q4 t0 g0 g1 g2 g3
  have hzz := hb.size
  obtain ⟨s0, s1, s2⟩ := s
  simp only at hm
  subst hm
  simp only at y0 y1 y2
  go_enter Tryz.func14, Tryz.ntmps14
  go_upto_region 2 with (fail)
  obtain ⟨L, hL⟩ : ∃ L, (d.long || decide (1048576 < d.bs.length + 2 * deep)) = L := ⟨_, rfl⟩
  have HL := Lib.hid hL
  clear hL
  have hd2 := (hd.setAt (d.at_ + 1) (d.at_ + 1) (by omega)).alloc (.cells #[.int .i64 m, .int .i64 s1, .int .i64 s2] 42)
  have HD2 := Lib.hid hd2
  have hs2 : Blk ((w.setCell ⟨w0.heap.size + 2, 0, none⟩ (.int .i64 (d.at_ + 1))).alloc (.cells #[.int .i64 m, .int .i64 s1, .int .i64 s2] 42)) w.heap.size 42 #[.int .i64 m, .int .i64 s1, .int .i64 s2] := by
    have := Blk.new (w.setCell ⟨w0.heap.size + 2, 0, none⟩ (.int .i64 (d.at_ + 1))) 42 #[.int .i64 m, .int .i64 s1, .int .i64 s2]
    simpa [World.setCell] using this
  have HS2 := Lib.hid hs2
  have hb2 : Below w0.heap.size w ((w.setCell ⟨w0.heap.size + 2, 0, none⟩ (.int .i64 (d.at_ + 1))).alloc (.cells #[.int .i64 m, .int .i64 s1, .int .i64 s2] 42)) := ((Below.refl _ _).setCell (by simp) _).alloc (by simp [World.setCell]; omega) _
  have HB2 := Lib.hid hb2
  clear hd2 hs2 hb2
  go_cut [] (fun wx => Below w0.heap.size w wx ∧ Dw wx w0.heap.size rest fv ⟨d.at_ + 1, L, d.bs⟩ ∧ Blk wx w.heap.size 42 #[.int .i64 m, .int .i64 s1, .int .i64 s2])
  case first =>
    have Hlen : Hid (∀ (W : World), Bld W w0.heap.size w0.heap.size 53 rest d.bs → Calls Tryz.prog 15 #[.pointer (some ⟨w0.heap.size, 0, none⟩)] W (Quiet W (.int .i64 d.bs.length))) := Lib.hid fun W h => builderLen_any 53 rest _ _ d.bs W h
    cases hlo : d.long with
    | true =>
      rw [hlo] at q3
      have HL2 := HL.out
      simp only [hlo, Bool.true_or] at HL2
      subst HL2
      have Hlo := Lib.hid hlo
      clear hlo
      go_wp2_with fail
      go_meet
      refine ⟨(((Below.refl _ _).setCell (by simp) _).setCell (by simp) _).alloc (by simp [World.setCell]; omega) _, ((hd.setAt (d.at_ + 1) (d.at_ + 1) (by omega)).setLong true).alloc _, ?_⟩
      have := Blk.new ((w.setCell ⟨w0.heap.size + 2, 0, none⟩ (.int .i64 (d.at_ + 1))).setCell ⟨w0.heap.size + 3, 0, none⟩ (.bool true)) 42 #[.int .i64 m, .int .i64 s1, .int .i64 s2]
      simpa [World.setCell] using this
    | false =>
      rw [hlo] at q3
      have HL2 := HL.out
      simp only [hlo, Bool.false_or] at HL2
      have Hlo := Lib.hid hlo
      clear hlo
      by_cases hlen : 1048576 < d.bs.length + 2 * deep
      · rw [decide_eq_true hlen] at HL2
        subst HL2
        have hD : decide ((1048576 : Int) < d.bs.length + 2 * deep) = true := decide_eq_true (by omega)
        go_wp2_with fail
        refine (Hlen.out _ HD2.out.bld).mono ?_
        rintro en w2 ⟨rfl, q, rfl⟩
        go_wp2_with fail
        go_meet
        exact ⟨(below_dN HB2.out q).setCell (by simp) _, (HD2.out.drewN q).setLong true, (HS2.out.drewN q).far (by simp; omega) _⟩
      · rw [decide_eq_false hlen] at HL2
        subst HL2
        have hD : decide ((1048576 : Int) < d.bs.length + 2 * deep) = false := decide_eq_false (by omega)
        go_wp2_with fail
        refine (Hlen.out _ HD2.out.bld).mono ?_
        rintro en w2 ⟨rfl, q, rfl⟩
        go_wp2_with fail
        go_meet
        exact ⟨(below_dN HB2.out q).setCell (by simp) _, (HD2.out.drewN q).setLong false, (HS2.out.drewN q).far (by simp; omega) _⟩
  case rest =>
    obtain ⟨hbx, hdx, hsx⟩ := hcut
    clear q1 q2 q3 q4 f2 f3 l1 l2 l3 l4 t0 g0 g1 g2 g3 HS2 HD2 HB2 y0 y1 y2
    have hdl := hd.fn.lt
    have hbw := hb.trans hbx
    have q1 := hdx.wv.cell 0; have l1 := hdx.wv.lt
    have q3 := hdx.long.cell 0; have l3 := hdx.long.lt
    have s0' := hsx.cell 0; have s1' := hsx.cell 1; have s2' := hsx.cell 2; have ls := hsx.lt
    have g0 := (hgc.below hbw hgb).cell 0; have g1 := (hgc.below hbw hgb).cell 1; have g2 := (hgc.below hbw hgb).cell 2; have g3 := (hgc.below hbw hgb).cell 3
    simp only [List.getElem?_toArray, List.getElem?_cons_zero, List.getElem?_cons_succ] at q1 q3 s0' s1' s2' g0 g1 g2 g3
    go_upto_if 31 with (fail)
    go_cut [] (fun wy => Below w0.heap.size w wy ∧ Dw wy w0.heap.size rest fv (d.enter G.T G.N r (m, s1, s2) deep) ∧ Blk wy w.heap.size 42 #[.int .i64 m, .int .i64 s1, .int .i64 s2])
    case first =>
      cases hLL : L with
      | true =>
        subst hLL
        go_wp2_with fail
        go_meet
        refine ⟨hbx, ?_, hsx⟩
        unfold Dn.enter
        rw [if_pos HL.out]
        exact hdx
      | false =>
        subst hLL
        have Hrt : Hid (∀ W, Below w0.heap.size w0 W → Calls Tryz.prog 16 #[G.val, .int .i64 m] W (RetV W (.tuple #[.string (ruleT G.T G.N r.1 r.2), .nilIface]))) := Lib.hid fun W hW => by
          have hRm := HRm.out
          rw [List.getElem?_map, Option.map_eq_some_iff] at hRm
          obtain ⟨rl, h1, h2⟩ := hRm
          obtain ⟨hm, h3⟩ := List.getElem?_eq_some_iff.1 h1
          have hck := check_ok HGok.out
          have hrr := hck.each r (h2 ▸ List.mem_map_of_mem (h3 ▸ List.getElem_mem hm))
          have htn := hck.tn
          have := rule_text G m hm e W w0.heap.size (hE.below hW) (hG.below hW) hW.size HGok.out (by rw [h3]; subst h2; simp only [Rl.p] at hrr; omega) (fun s hs => by have := hrr.2.2.2 s (by subst h2; subst h3; exact hs); omega) (by rw [h3]; subst h2; simp only [Rl.p] at hrr; omega)
            (fun x hx => (List.mem_append.1 hx).elim (names_le hck.nt x) (names_le hck.nn x))
          rw [h3] at this
          subst h2
          exact this
        go_wp2_with fail
        refine (Hrt.out _ hbw).mono ?_
        rintro en w2 ⟨hb2, rfl⟩
        go_wp2_with fail
        have hw2 := hbw.trans (hb2.mono hbw.size)
        have hd2 := hdx.below hb2
        have hs2 := hsx.below hb2 hsx.lt
        have hx2 := hbx.trans (hb2.mono (by have := hb.size; have := hbx.size; omega))
        have HL2 := Lib.hid HL.out
        have hlo : d.long = false ∧ ¬ 1048576 < d.bs.length + 2 * deep := by simpa using HL.out
        obtain ⟨hlo, hlen⟩ := hlo
        have Hlo := Lib.hid hlo
        have htr := ht _ (List.mem_of_getElem? Hs.out)
        have hRm := List.mem_of_getElem? HRm.out
        have hck := check_ok HGok.out
        have hline := line_le (T := G.T) (N := G.N) (r := r) (s := (↑m, s1, s2)) (deep := deep) (fun x hx => (List.mem_append.1 hx).elim (names_le hck.nt x) (names_le hck.nn x)) (hck.each r hRm).1 htr.1 htr.2
        have Hrep : Hid (∀ W, Calls Tryz.prog 18 #[.string ⟨#[32, 32]⟩, .int .i64 deep] W (RetV W (.string ⟨(Lib.repeatL [32, 32] deep).toArray⟩))) := Lib.hid fun W =>
          (repeat_any ⟨#[32, 32]⟩ deep W (by omega) (by show 2 * deep ≤ _; omega)).mono fun _ _ ⟨he, hb⟩ => ⟨hb, he⟩
        have Hit : Hid (∀ n W, (n = s1 ∨ n = s2) → Below w2.heap.size w2 W → Calls Tryz.prog 19 #[.int .i64 n] W (RetV W (.string ⟨(Lib.itoa n).toArray⟩))) := Lib.hid fun n W hn hW => by
          have hWW := hw2.trans (hW.mono hw2.size)
          rcases hn with rfl | rfl
          · exact itoa_below _ htr.1.1 htr.1.2 w0 W htab hWW
          · exact itoa_below _ htr.2.1 htr.2.2 w0 W htab hWW
        have Hput : Hid (∀ (W : World), Below w2.heap.size w2 W → Calls Tryz.prog 17 #[.pointer (some ⟨w0.heap.size, 0, none⟩), .slice (some ⟨W.heap.size, 0, none⟩) 7 7]
            (W.alloc (.cells #[.string ⟨(Lib.repeatL [32, 32] deep).toArray⟩, .string (ruleT G.T G.N r.1 r.2), .string ⟨#[32]⟩, .string ⟨(Lib.itoa s1).toArray⟩, .string ⟨#[45]⟩, .string ⟨(Lib.itoa s2).toArray⟩, .string ⟨#[10]⟩] 9))
            (fun en w' => en = .returned (.tuple #[]) ∧ Below w0.heap.size w w' ∧ Dw w' w0.heap.size rest fv (d.enter G.T G.N r (m, s1, s2) deep) ∧ Blk w' w.heap.size 42 #[.int .i64 m, .int .i64 s1, .int .i64 s2])) := Lib.hid fun W hW => by
          have hdW := hd2.below hW
          have hbW : Below w0.heap.size w W := hx2.trans (hW.mono hw2.size)
          have hsW := hs2.below hW hs2.lt
          have hB : w0.heap.size ≤ W.heap.size := Nat.le_trans hb.size hbW.size
          have hl := hdW.bld.lt
          have := put_any rest hrest w0.heap.size w0.heap.size W.heap.size 7 d.bs (lineL G.T G.N r (m, s1, s2) deep) (W.alloc (.cells (strs (lineL G.T G.N r (m, s1, s2) deep)).toArray 9)) (hdW.bld.alloc _) (Blk.new _ _ _) (by omega) (by omega) (by simp [lineL]) (by simp; omega)
          refine Calls.mono this ?_
          rintro en w' ⟨he, hb', hB', hK⟩
          have hA := hdW.alloc (.cells (strs (lineL G.T G.N r (m, s1, s2) deep)).toArray 9)
          refine ⟨he, (hbW.alloc hB _).trans hb', ?_, hK _ _ _ (by have := hb.size; have := hd.fn.lt; omega) (by decide) (hsW.alloc _)⟩
          unfold Dn.enter
          rw [if_neg (by rw [HL2.out]; decide)]
          exact ⟨hB', hK _ _ _ (by omega) (by decide) hA.wv, hK _ _ _ (by omega) (by decide) hA.at_, hK _ _ _ (by omega) (by decide) hA.long, hK _ _ _ (by omega) (by decide) hA.fn⟩
        have q1 := hd2.wv.cell 0; have l1 := hd2.wv.lt
        have s1' := hs2.cell 1; have s2' := hs2.cell 2; have ls := hs2.lt
        simp only [List.getElem?_toArray, List.getElem?_cons_zero, List.getElem?_cons_succ] at q1 s1' s2'
        have hZ : Below w2.heap.size w2 w2.drew := (Below.refl _ _).drew
        have hsz : w0.heap.size + 1 ≠ w.heap.size := by have := hd.fn.lt; omega
        have HF1 := Lib.hid (And.intro l1 ls)
        have HQ := Lib.hid (And.intro q1 (And.intro s1' s2'))
        clear hd2 hs2 hlen hline hck htr hlo Hdn IH hdx hsx hd
        go_region_held3 (fun w' => w'.cell? ⟨w0.heap.size + 1, 0, none⟩ = some (.pointer (some ⟨w0.heap.size, 0, none⟩)) ∧ w'.cell? ⟨w.heap.size, 1, none⟩ = some (.int .i64 s1) ∧ w'.cell? ⟨w.heap.size, 2, none⟩ = some (.int .i64 s2)) (go_keep)
          (first
            | (go_at_call 18; (with_reducible refine (Hrep.out _).mono ?_); rintro en w3 ⟨hb3, rfl⟩; have hZ' := hZ.trans (hb3.mono hZ.size); clear hZ hb3; have hZ := hZ'; clear hZ'; have e1 := (hZ.cell (p := ⟨w0.heap.size + 1, 0, none⟩) HF1.out.1).trans HQ.out.1; have e2 := (hZ.cell (p := ⟨w.heap.size, 1, none⟩) HF1.out.2).trans HQ.out.2.1; have e3 := (hZ.cell (p := ⟨w.heap.size, 2, none⟩) HF1.out.2).trans HQ.out.2.2)
            | (go_at_call 19; (with_reducible refine (Hit.out _ _ (by first | exact .inl rfl | exact .inr rfl) hZ).mono ?_); rintro en w3 ⟨hb3, rfl⟩; have hZ' := hZ.trans (hb3.mono hZ.size); clear hZ hb3; have hZ := hZ'; clear hZ'; have e1 := (hZ.cell (p := ⟨w0.heap.size + 1, 0, none⟩) HF1.out.1).trans HQ.out.1; have e2 := (hZ.cell (p := ⟨w.heap.size, 1, none⟩) HF1.out.2).trans HQ.out.2.1; have e3 := (hZ.cell (p := ⟨w.heap.size, 2, none⟩) HF1.out.2).trans HQ.out.2.2)
            | (go_at_call 17; (with_reducible refine (Hput.out _ hZ).mono ?_); rintro en w3 ⟨rfl, hbf, hdf, hsf⟩; have e1 := hdf.wv.cell 0; have e2 := hsf.cell 1; have e3 := hsf.cell 2; simp only [List.getElem?_toArray, List.getElem?_cons_zero, List.getElem?_cons_succ] at e1 e2 e3))
        all_goals
          go_wp2_with fail
          go_meet
          exact ⟨hbf, hdf, hsf⟩
    case rest =>
      obtain ⟨hby, hdy, hsy⟩ := hcut
      clear q1 q3 s0' s1' s2' g0 g1 g2 g3 l1 l3 ls
      have hbw2 := hb.trans hby
      have s0' := hsy.cell 0; have ls := hsy.lt
      have g3 := (hgc.below hbw2 hgb).cell 3
      simp only [List.getElem?_toArray, List.getElem?_cons_zero, List.getElem?_cons_succ] at s0' g3
      have hRm := HRm.out
      rw [List.getElem?_map, Option.map_eq_some_iff] at hRm
      obtain ⟨rl, h1, h2⟩ := hRm
      obtain ⟨hm, h3⟩ := List.getElem?_eq_some_iff.1 h1
      obtain ⟨bR, oR, hAR, hbR, hR0, hR1⟩ := (hG.below hbw2).r.at_ hm
      rw [hAR] at g3
      have hck := check_ok HGok.out
      have hrow := ((hG.below hb).r.each rl (h3 ▸ List.getElem_mem hm)).1
      have hrr := hck.each r (h2 ▸ List.mem_map_of_mem (h3 ▸ List.getElem_mem hm))
      have hdl := down_le (T := G.T) (N := G.N) (R := G.R.map Rl.p) (tree := tree) (fun x hx => (List.mem_append.1 hx).elim (names_le hck.nt x) (names_le hck.nn x)) (fun r hr => (hck.each r hr).1) ht
      have Hdl := Lib.hid hdl
      have hen : (d.enter G.T G.N r (m, s1, s2) deep).bs.length ≤ 1073741824 := by
        unfold Dn.enter
        split
        · exact hbs
        · rename_i hl
          simp only [Bool.or_eq_true, decide_eq_true_eq, not_or] at hl
          have htr := ht _ (List.mem_of_getElem? Hs.out)
          have := line_le (T := G.T) (N := G.N) (r := r) (s := (↑m, s1, s2)) (deep := deep) (fun x hx => (List.mem_append.1 hx).elim (names_le hck.nt x) (names_le hck.nn x)) hrr.1 htr.1 htr.2
          simp only [List.length_append]
          omega
      have Hen := Lib.hid hen
      have Hrr := Lib.hid hrr
      have hr32 := hrr.1
      have hr2 : r.2 = rl.right := by subst h2; rfl
      rw [hr2] at hr32
      have Hdn2 := Hdn.out
      rw [hr2] at Hdn2
      have Hdn3 := Lib.hid Hdn2
      rw [h3] at hR1
      generalize he : d.enter G.T G.N r (m, s1, s2) deep = de at *
      clear hdl hen hrr hck h1 h2 hR0 hr2 Hdn Hdn2 h3 he
      generalize rl.right = right at *
      generalize rl.A = A2 at *
      generalize rl.c = c2 at *
      go_wp2_with fail
      go_loopw [59] (fun i wr => ∃ (j : Nat) (dj : Dn), j ≤ right.length ∧ i = .int .i64 j ∧ Below w0.heap.size w wr ∧ Dw wr w0.heap.size rest fv dj ∧ dj.bs.length ≤ 1073741824 ∧
        (right.take j).foldlM (fun d x => if x < 0 then downF G.T G.N (G.R.map Rl.p) tree k d (deep + 1) else some d) de = some dj) (fun i _ => right.length - (intOf i).toNat)
      case atStart => exact ⟨0, de, Nat.zero_le _, rfl, hby, hdy, Hen.out, rfl⟩
      case round =>
        obtain ⟨j, dj, hj, rfl, hbr, hdr, hle, hfold⟩ := hrel
        have Hfold := Lib.hid hfold
        clear hfold
        by_cases hlt : j < right.length
        · obtain ⟨b3, o3, rfl, hb3, hc3⟩ := (hrow.below hbr).at_ (k := j) (by simpa [nums] using hlt)
          have hcx : wr.cell? ⟨b3, o3 + j, none⟩ = some (.int .i64 right[j]) := by rw [hc3 _ (by simpa [nums] using hlt)]; simp [nums]
          clear hc3
          obtain ⟨x, Hx⟩ : ∃ x, Hid (right[j] = x) := ⟨right[j], Lib.hid rfl⟩
          rw [Hx.out] at hcx
          have q6 := hdr.fn.cell 0; have l6 := hdr.fn.lt
          simp only [List.getElem?_toArray, List.getElem?_cons_zero] at q6
          by_cases hx : x < 0
          · cases hdo : downF G.T G.N (G.R.map Rl.p) tree k dj (deep + 1) with
            | none =>
              exfalso
              have := fold_none (f := fun d x => if x < 0 then downF G.T G.N (G.R.map Rl.p) tree k d (deep + 1) else some d) hlt Hfold.out (by simp only [Hx.out, if_pos hx, hdo])
              rw [Hdn3.out] at this; cases this
            | some dk =>
              have Hdo := Lib.hid hdo
              clear hdo
              have hcall := IH.out dj dk (deep + 1) wr (hb.trans hbr) hdr Hdo.out hle (by omega)
              have Hcall := Lib.hid hcall
              clear hcall
              rw [Hfv.out] at q6
              have hen2 : Enters Tryz.prog 14 := enters_of Tryz.func14 (by kernel_rfl) rfl
              have eg : ∀ args w, (callFunc 14 args).run Tryz.prog w = .ok (.enter 14 args) w := hen2
              clear hen2
              go_wp2_with fail
              refine Hcall.out.mono ?_
              rintro en w' ⟨rfl, hb', hd'⟩
              go_wp2_with fail
              go_roundw
              case rel => exact ⟨j + 1, dk, by omega, by go_num, hbr.trans hb', hd', Hdl.out k dj dk _ Hdo.out hle, fold_next hlt Hfold.out (by simp only [Hx.out, if_pos hx]; exact Hdo.out)⟩
              case measure => simp [intOf]; omega
          · go_wp2_with fail
            go_roundw
            case rel => exact ⟨j + 1, dj, by omega, by go_num, hbr, hdr, hle, fold_next hlt Hfold.out (by simp only [Hx.out, if_neg hx])⟩
            case measure => simp [intOf]; omega
        · go_wp2_with fail
          go_end0
          have h1 := Hfold.out
          rw [List.take_of_length_le (by omega), Hdn3.out] at h1
          cases h1
          exact ⟨rfl, hbr, hdr⟩
end Go.Proofs.YtoidecclimhgjaaGreatDoor
