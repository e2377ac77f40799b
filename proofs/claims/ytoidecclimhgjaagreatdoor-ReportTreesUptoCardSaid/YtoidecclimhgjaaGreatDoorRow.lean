/- ReportTrees: for every grammar and every row of steps that are together of bulk at most 1048576 the law returns true, and both arguments read behind the call as before. Conditions: that bulk; the listed package-level variables read as the row lists them, which the card ties to the program's text. -/
import Derived.Test.YtoidecclimhgjaaGreatDoorCards
import Derived.Test.YtoidecclimhgjaaGreatDoorTie
import Derived.Test.YtoidecclimhgjaaGreatDoorLaid
import Derived.Test.YtoidecclimhgjaaGreatDoorArgs
import Derived.Test.YtoidecclimhgjaaGreatDoorLaw
import Derived.WalkKit
import Derived.ProofKit
import Derived.OpenShut
import Derived.Carry
import Derived.Deep.DeepHandedRow
import Derived.Deep.DeepWitnessRowRef
import Derived.SevenTiedAt
namespace Go.Proofs.YtoidecclimhgjaaGreatDoor
open Go.ChangeShapes Go.WideShapes Go.ChangeAt Go.RowKit

theorem own : ownKnob Tryz.prog.godebug = none := by kernel_rfl
theorem laidOut : laidOutB Tryz.prog = true := by kernel_rfl

/-! The row's last step where the call froze something new: after the guide's block on it. -/
section
variable {H : Type} {enc : TypeId × Value → H} {P : Program}
theorem post_of_below {f : Func} {s : ChangeSpec} {apart fresh handsOn again : Bool} {W W' : World} {args : Array Value} {v : Value} {ds gs : List (DataW H)} {before pa pv : List MemPlace}
    (hW : DataW.Whole enc P f.params.toList s.vars apart W args.toList ds gs before)
    (hres : ∀ (b : Nat) (sp : Nat → Bool) (hd : Bool), DataW.TrodAll enc P W' b sp hd f.resultTypes.toList (v.resultList f.resultTypes.size) (s.fn H (ds ++ gs)).results [])
    (hargs : ∀ sp : Nat → Bool, (∀ p ∈ before, sp p.block = true) → DataW.TrodAll enc P W' 0 sp true f.params.toList args.toList (s.fn H (ds ++ gs)).args pa)
    (hvars : ∀ sp : Nat → Bool, (∀ p ∈ before, sp p.block = true) → DataW.TrodVars enc P W' sp s.vars (s.fn H (ds ++ gs)).vars pv)
    (hps : before = pa ++ pv) (hb : Below W.heap.size W W')
    (hok : ∀ (j : Nat) (t : TypeId) (r : Value), f.resultTypes[j]? = some t → (v.resultList f.resultTypes.size)[j]? = some r → Value.okWide P W' .any 0 t r) :
    s.post enc P f apart fresh handsOn again W args v W' := by
  have hlt : ∀ p ∈ before, p.block < W.heap.size := fun p hp => hW.lt p hp
  have hold : ∀ p ∈ before, (fun b => decide (b < W.heap.size)) p.block = true := fun p hp => by simpa using hlt p hp
  refine ⟨ds, gs, before, [], pa, pv, hW, hres _ _ _, hargs _ hold, hvars _ hold, World.keptBut_mono (fun p hp => ⟨hp, ?_⟩) (hb.frame (· ∈ before)), fun _ => ?_⟩
  · rw [hps, List.mem_append] at hp
    exact Or.inr hp
  · obtain ⟨_, _, _, _, _, hz, hn⟩ := hW
    refine ⟨hok, _, _, ([] ++ pa) ++ pv, ⟨[] ++ pa, pv, trodAll_append (hargs _ (fun _ _ => rfl)) (hres _ _ _), hvars _ (fun _ _ => rfl), rfl, ?_, ?_⟩, ?_⟩
    · intro b off hp
      have hin : MemPlace.cell b off ∈ before := by rw [hps]; simpa using hp
      rw [hb.frozen (hlt _ hin)]
      exact hz b off hin
    · intro ha
      have := hn ha
      rw [hps] at this
      simpa using this
    · intro p hp _
      rw [hps]
      simpa using hp
end

abbrev laidList : List (String × DataW Unit) := Rows.reportTreesUptoRow.laid
abbrev handleData : DataW Unit := .iface "internal/reflectlite.rtype" (.agg [.ptr (.lit (.string [101, 114, 114, 111, 114]))])
theorem laid_data : (laidList.filter fun x => x.2.handleName?.isNone) =
    [("math/bits.deBruijn32tab", Rows.laid_math_bits_deBruijn32tab), ("math/bits.deBruijn64tab", Rows.laid_math_bits_deBruijn64tab), ("internal/strconv.uint64pow10", Lib.tabData .u64 Lib.pow10Tab), ("dovetail/api.ErrArg", sentData (sentText 1)), ("dovetail/api.ErrSyntax", sentData (sentText 2)), ("dovetail/api.ErrBounds", sentData (sentText 3)), ("dovetail/api.ErrNotOperator", sentData (sentText 4)), ("dovetail/api.ErrMatrix", sentData (sentText 5)), ("dovetail/api.ErrTooBig", sentData (sentText 6)), ("dovetail/api.ErrRefused", sentData (sentText 7)), ("dovetail/api.ErrCut", sentData (sentText 8)), ("dovetail/api.ErrPlan", sentData (sentText 9)), ("dovetail/api.ErrName", sentData (sentText 10)), ("dovetail/api.ErrTree", sentData (sentText 11)), ("dovetail/api.ErrLong", sentData (sentText 12)), ("dovetail/api.ErrForm", sentData (sentText 13)), ("dovetail/api.ErrSum", sentData (sentText 14)), ("dovetail/api.ErrNone", sentData (sentText 15))] := by kernel_rfl
theorem laid_handle : (laidList.filter fun x => x.2.handleName?.isSome) = [("errors.errorType", handleData)] := by kernel_rfl

theorem laid_all {W : World} (h : laidMetH Tryz.prog laidList W) : (∃ e, GE W e) ∧ ETy W ∧ Lib.TabIs Tryz.prog W "internal/strconv.uint64pow10" .u64 Lib.pow10Tab := by
  obtain ⟨h0, hh⟩ := laid_two laid_data laid_handle h
  have h1 := h0.tail
  have h2 := h1.tail
  have s1 := h2.tail
  have s2 := s1.tail
  have s3 := s2.tail
  have s4 := s3.tail
  have s5 := s4.tail
  have s6 := s5.tail
  have s7 := s6.tail
  have s8 := s7.tail
  have s9 := s8.tail
  have s10 := s9.tail
  have s11 := s10.tail
  have s12 := s11.tail
  have s13 := s12.tail
  have s14 := s13.tail
  have s15 := s14.tail
  have hz : 19 < W.heap.size := var_lt (by kernel_rfl) h1
  refine ⟨ge_of hz fun k hk1 hk2 => ?_, ety_of hh, Lib.tabIs_of_head (g := 17) (by kernel_rfl) pow_ty Tryz.underlying175 Tryz.underlying114 (by kernel_rfl) (by kernel_rfl) h2⟩
  have hk : k = 1 ∨ k = 2 ∨ k = 3 ∨ k = 4 ∨ k = 5 ∨ k = 6 ∨ k = 7 ∨ k = 8 ∨ k = 9 ∨ k = 10 ∨ k = 11 ∨ k = 12 ∨ k = 13 ∨ k = 14 ∨ k = 15 := by omega
  rcases hk with rfl | rfl | rfl | rfl | rfl | rfl | rfl | rfl | rfl | rfl | rfl | rfl | rfl | rfl | rfl
  · exact sent_of s1 (by kernel_rfl) (by kernel_rfl)
  · exact sent_of s2 (by kernel_rfl) (by kernel_rfl)
  · exact sent_of s3 (by kernel_rfl) (by kernel_rfl)
  · exact sent_of s4 (by kernel_rfl) (by kernel_rfl)
  · exact sent_of s5 (by kernel_rfl) (by kernel_rfl)
  · exact sent_of s6 (by kernel_rfl) (by kernel_rfl)
  · exact sent_of s7 (by kernel_rfl) (by kernel_rfl)
  · exact sent_of s8 (by kernel_rfl) (by kernel_rfl)
  · exact sent_of s9 (by kernel_rfl) (by kernel_rfl)
  · exact sent_of s10 (by kernel_rfl) (by kernel_rfl)
  · exact sent_of s11 (by kernel_rfl) (by kernel_rfl)
  · exact sent_of s12 (by kernel_rfl) (by kernel_rfl)
  · exact sent_of s13 (by kernel_rfl) (by kernel_rfl)
  · exact sent_of s14 (by kernel_rfl) (by kernel_rfl)
  · exact sent_of s15 (by kernel_rfl) (by kernel_rfl)

set_option maxRecDepth 100000 in
theorem contract (H : Type) (enc : TypeId × Value → H) (W : World) (base : Nat) (args : Array Value) (ds gs : List (DataW H)) (before : List MemPlace)
    (hval0 : ∀ (j : Nat) t v, Tryz.f3.params[j]? = some t → args[j]? = some v → Value.okWide Tryz.prog W .any base t v)
    (hW : DataW.Whole enc Tryz.prog Tryz.f3.params.toList Rows.reportTreesSpec.vars false W args.toList ds gs before) (hL : laidMetH Tryz.prog laidList W) (hk0 : Rows.uptoSmall H (ds ++ gs) = true) :
    Calls Tryz.prog 3 args W fun e W' => ∃ v, e = .returned v ∧ Rows.reportTreesSpec.post enc Tryz.prog Tryz.f3 false true false false W args v W' := by
  have hval := hval0
  have hW' := hW
  obtain ⟨p, q, hA0, hV, rfl, _, _⟩ := hW
  have hA : DataW.TrodAll enc Tryz.prog W 0 (fun _ => true) true Tryz.f3.params.toList args.toList ds p := hA0
  rw [Tryz.params3] at hA hval
  obtain ⟨v0, v1, d0, d1, p0, p1, rfl, rfl, rfl, h0, h1⟩ := trodAll_two hA
  obtain ⟨rfl, rfl⟩ := trodVars_none hV
  have hk : Rows.uptoBulk d0 + Rows.uptoBulk d1 ≤ 1048576 := by
    simpa [Rows.uptoSmall, Rows.uptoBulkAll] using hk0
  have hlt : ∀ x ∈ p0 ++ p1, x.block < W.heap.size := fun x hx => by simpa using hW'.lt x (by simpa using hx)
  obtain ⟨g, hv0, hg, uT, uN, uR, uE⟩ := grammar_open (hval 0 25 v0 rfl rfl) h0 (by omega)
  obtain ⟨A, c, l, hv1, hrow, ul, _, hran⟩ := steps_open (hval 1 26 v1 rfl rfl) h1 (by omega)
  obtain ⟨⟨e, hE⟩, hty, htab⟩ := laid_all hL
  have walk : Calls Tryz.prog 3 #[v0, v1] W (RetV W (.bool true)) := by
    rw [hv0, hv1]
    exact law_any e g A c l W hE hty htab hg hrow uT uN uR uE ul fun s hs => (hran s hs).2
  refine walk.mono fun en W' ⟨hb, he⟩ => ?_
  subst he
  exact ⟨_, rfl, post_of_below (pa := p0 ++ p1) (pv := []) hW' (fun _ _ _ => trodAll_cons_mk (shut_bool Tryz.underlying4 _) trodAll_mk0)
    (fun sp hsp => trodAll_mk2 (WideElems.Trod_stays laidOut (by kernel_rfl) (of_decide_eq_true (by kernel_rfl)) h0 (fun x hx => hb.same (hlt x (List.mem_append_left _ hx))) (fun x hx => hsp x (by simp [hx])))
      (WideElems.Trod_stays laidOut (by kernel_rfl) (of_decide_eq_true (by kernel_rfl)) h1 (fun x hx => hb.same (hlt x (List.mem_append_right _ hx))) (fun x hx => hsp x (by simp [hx]))))
    (fun _ _ => rfl) (by simp) hb (ok_one (by kernel_rfl) rfl (okWide_bool_mk Tryz.underlying4 _))⟩

/-! The witness: the settled world, each listed variable holding what its initialiser lays; an empty grammar, no steps. -/
noncomputable def low : Nat := (World.holding Tryz.prog default ⟨#[], #[], []⟩).heap.size
def tabCells : DataW Unit → Array Value
  | .agg l => (l.map fun
    | .lit (.int k n) => Value.int k n
    | _ => .nilIface).toArray
  | _ => #[]
def lay (h : Array Obj) (g : Nat) (cs : Array Value) : Array Obj := h.modify g fun
  | .cells _ t frozen => .cells cs t frozen
  | o => o
noncomputable def laidWorld (os : Os) : World :=
  let w0 := World.holding Tryz.prog os ⟨((List.range 15).map fun i => Obj.cells #[.string ⟨(sentText (i + 1)).toArray⟩] 205).toArray, #[], []⟩
  let h1 := (List.range 15).foldl (fun h i => lay h (gno (i + 1)) #[ev ⟨low + i, 0, none⟩]) w0.heap
  let h2 := lay h1 18 (tabCells Rows.laid_math_bits_deBruijn32tab)
  let h3 := lay h2 19 (tabCells Rows.laid_math_bits_deBruijn64tab)
  let h4 := lay h3 17 (tabCells Rows.laid_internal_strconv_uint64pow10)
  { w0 with heap := lay h4 15 #[.iface 155 (.agg #[.pointer (some ⟨20, 30, none⟩)])] }
abbrev noArgs : Array Value := #[.agg #[.slice none 0 0, .slice none 0 0, .int .i64 0, .slice none 0 0], .slice none 0 0]
theorem laid_met (os : Os) : laidMetH Tryz.prog laidList ((laidWorld os).forCall (fun _ _ => 0) ⟨#[], noArgs, []⟩).memory :=
  laidMetH_of_parts (laidMet_of_run' 8 (by kernel_rfl) (by kernel_rfl)) (by kernel_rfl)
theorem reads (os : Os) {H : Type} (enc : TypeId × Value → H) : ∃ places, DataW.whole enc Tryz.prog ((laidWorld os).forCall (fun _ _ => 0) ⟨#[], noArgs, []⟩).memory Tryz.f3.params.toList Rows.reportTreesSpec.vars false noArgs.toList 8 =
    some ([.agg [.nil, .nil, .lit (.int .i64 0), .nil], .nil], [], places) := ⟨[], by kernel_rfl⟩

set_option maxRecDepth 100000 in
theorem liftedUpto (os : Os) (started : os.Started) (H : Type) (enc : TypeId × Value → H) (F : Stop.Interp) :
    ReturnsInHanded {} Tryz.checked os 3 .any ((Rows.OpenSpec.upto Rows.reportTreesSpec).preRow enc Tryz.prog Tryz.f3 Rows.reportTreesUptoRow.domain false Rows.reportTreesUptoRow.laid) (((Rows.OpenSpec.upto Rows.reportTreesSpec).at F).post enc Tryz.prog Tryz.f3 false true false false) := by
  obtain ⟨places, hx⟩ := reads os enc
  refine returnsInHanded_of_row (C := Tryz.checked) (s := Rows.OpenSpec.upto Rows.reportTreesSpec) own started (by kernel_rfl) Tryz.func3
    (witness_row_atRef (enc := enc) (C := Tryz.checked) false (laidWorld os) noArgs rfl (by kernel_rfl) (by kernel_rfl) (by kernel_rfl)
      (OpenSpec.preRow_of_cond 8 hx (by kernel_rfl) (fun k hk => by cases hk; kernel_rfl) (by kernel_rfl) (laid_met os))) ?_
  intro W base args ds gs before hval hW _ hcond _ hL _ _
  exact contract H enc W base args ds gs before hval hW hL (hcond _ rfl)

theorem saidUpto : Rows.ReportTreesUptoSaid :=
  OpenClaim.holds_of_cond 3 Tryz.f3 rfl rfl rfl rfl rfl rfl rfl ⟨rfl, rfl, rfl, rfl, rfl⟩ rfl rfl rfl rfl rfl (by kernel_rfl) Tryz.func3 (by kernel_rfl)
    (of_decide_eq_true (by kernel_rfl)) (by unfold Func.isWrapper; first | (rw [if_pos (by decide +kernel)]; kernel_rfl) | (rw [if_neg (by decide +kernel)]; exact ⟨rfl, rfl⟩))
    (fun os started H enc _ F => by rw [OpenClaim.pre_eq_preRow]; exact liftedUpto os started H enc F)

/-- No parameter wants a stand-in; the program's own looks are off. -/
theorem plain (f : FuncId) (fn : Func) (hf : Tryz.pinned.checked.prog.funcNamed "dovetail/dovetaillaw29.ReportTrees" = some f) (hfn : Tryz.pinned.checked.prog.funcs[f]? = some fn) :
    true = Tryz.pinned.checked.prog.looks [] ∧ ∀ (j : Nat) t, fn.params[j]? = some t → Tryz.pinned.checked.prog.wantsStandIn t = false := by
  obtain rfl : f = 3 := Option.some.inj ((show Tryz.prog.funcNamed "dovetail/dovetaillaw29.ReportTrees" = some 3 by kernel_rfl).symm.trans hf) |>.symm
  obtain rfl : fn = Tryz.f3 := (Option.some.inj (Tryz.func3.symm.trans hfn)).symm
  refine ⟨by kernel_rfl, fun j t ht => ?_⟩
  rw [Tryz.params3] at ht
  have hm := Array.mem_of_getElem? ht
  simp only [List.mem_toArray, List.mem_cons, List.not_mem_nil, or_false] at hm
  rcases hm with rfl | rfl
  · exact (show Tryz.prog.wantsStandIn 25 = false by kernel_rfl)
  · exact (show Tryz.prog.wantsStandIn 26 = false by kernel_rfl)

theorem reportTrees_card : Rows.ReportTreesUptoCardSaid :=
  Claim7.holds_tied_plain_at .later [] _ _ _ _ saidUpto (fun _ h => by cases h) (by kernel_rfl) (fun _ h => by cases h) reportTreesUpto_row_tie rfl ⟨rfl, rfl⟩ (by kernel_rfl) rfl plain (by kernel_rfl)
#print axioms reportTrees_card
end Go.Proofs.YtoidecclimhgjaaGreatDoor
