/- What the row's listed variables give a walk: the fifteen errors, the type's handle, the table of powers of ten. -/
import Derived.Test.YtoidecclimhgjaaGreatDoorRows
import Derived.Test.YtoidecclimhgjaaGreatDoorErr
import Derived.Test.YtoidecclimhgjaaGreatDoorAs
import Derived.LaidLaws
import Derived.LaidHandle
import Derived.Lib.LaidTab
import Derived.Stop.LaidErr
namespace Go.Proofs.YtoidecclimhgjaaGreatDoor
open Go.RowKit Go.ChangeShapes Go.WideShapes

theorem star : "*" ++ "errors.errorString" = "*errors.errorString" := by decide
theorem rowES (u : TypeId) (h : Tryz.prog.typeName? 3 u = some "*errors.errorString") : u = 181 :=
  typeName_ptr_named (nm := "errors.errorString") (by rw [star]; kernel_rfl) (by kernel_rfl) (by decide) u (by rw [star]; exact h)
theorem cellsES : Tryz.prog.cellsOf 205 = 1 := by kernel_rfl
theorem cellsStr : Tryz.prog.cellsOf 9 = 1 := by kernel_rfl

/-- Variable g holds an error of errors.New with this text. -/
def Sent (W : World) (g : Nat) (text : List UInt8) : Prop :=
  ∃ a s cs t, W.cell? ⟨g, 0, none⟩ = some (ev a) ∧ W.cell? a = some (.string s) ∧ s.data.toList = text ∧ W.heap[a.block]? = some (.cells cs t (0, 0))
abbrev sentData (text : List UInt8) : DataW Unit := .iface "*errors.errorString" (.ptr (.agg [.lit (.string text)]))

set_option maxRecDepth 100000 in
theorem sent_of {n : String} {text : List UInt8} {r : List (String × DataW Unit)} {W : World} {g : Nat} (h : laidMet Tryz.prog ((n, sentData text) :: r) W)
    (hg : Tryz.prog.globalNamed n = some g) (ht : (Tryz.prog.globals[g]?).map (·.type) = some 30) : Sent W g text := by
  obtain ⟨ps, ⟨g0, t0, cs0, f0, p0, q0, hg0, ht0, hv0, hd0, _, e0⟩, _, hrows⟩ := h
  obtain rfl := Option.some.inj (hg.symm.trans hg0)
  obtain rfl := Option.some.inj (ht.symm.trans ht0)
  subst e0
  obtain ⟨l0⟩ := cs0
  have ok0 : ∀ u v, l0 = [.iface u v] → Value.okWide Tryz.prog W .any 0 u v := fun u v e => by
    subst e
    exact (hrows g 0 (by simp [MemPlace.row])).2 u v (by simpa using World.var?_cell hg0 hv0 0)
  obtain ⟨a0, s0, rfl, hc0, hs0, hz0, rfl⟩ := errorString_of_trod Tryz.underlying30 rowES Tryz.underlying181 Tryz.underlying205 rfl rfl Tryz.underlying9 cellsES cellsStr hd0 ok0
  obtain ⟨c0, t0, hb0⟩ := (hrows a0.block a0.off (by simp [MemPlace.row])).1
  exact ⟨a0, s0, c0, t0, by simpa using World.var?_cell hg hv0 0, hc0, hs0, hb0⟩

theorem laid_two {P : Program} {W : World} {l d : List (String × DataW Unit)} {x : String × DataW Unit} {hs : List (String × DataW Unit)} (hd : (l.filter fun x => x.2.handleName?.isNone) = d) (hh : (l.filter fun x => x.2.handleName?.isSome) = x :: hs)
    (h : laidMetH P l W) : laidMet P d W ∧ handlesMet P (x :: hs) W := by
  unfold laidMetH at h
  rw [hh] at h
  subst hd
  exact h
theorem var_lt {P : Program} {W : World} {n : String} {g : Nat} {x : DataW Unit} {r : List (String × DataW Unit)} (hg : P.globalNamed n = some g) (h : laidMet P ((n, x) :: r) W) : g < W.heap.size := by
  obtain ⟨ps, ⟨g', t', cs, fuel, p, q, hg', ht', hvar, _, _, _⟩, _⟩ := h
  obtain rfl := Option.some.inj (hg.symm.trans hg')
  unfold World.var? at hvar
  simp only [hg, Option.bind_some] at hvar
  rcases Nat.lt_or_ge g W.heap.size with h | h
  · exact h
  · simp [Array.getElem?_eq_none h] at hvar

theorem rtNo : (Tryz.prog.cutTypes.find? (·.1 == "internal/reflectlite.rtype")).map (·.2) = some 155 := by kernel_rfl
theorem oneErr : ((List.range Tryz.prog.types.size).filter fun t => Tryz.prog.rowNamed t [101, 114, 114, 111, 114]) = [30] := by kernel_rfl
theorem etNo : Tryz.prog.globalNamed "errors.errorType" = some 15 := by kernel_rfl
theorem ety_of {W : World} {hs : List (String × DataW Unit)} (h : handlesMet Tryz.prog (("errors.errorType", .iface "internal/reflectlite.rtype" (.agg [.ptr (.lit (.string [101, 114, 114, 111, 114]))])) :: hs) W) : ETy W := by
  obtain ⟨name, u, ty, e1, e2, e3, e4, e5⟩ := h _ (List.mem_cons_self ..)
  have en : name = [101, 114, 114, 111, 114] := (Option.some.inj e1).symm
  subst en
  obtain rfl := Option.some.inj (rtNo.symm.trans e2)
  have hm : ty ∈ (List.range Tryz.prog.types.size).filter fun t => Tryz.prog.rowNamed t [101, 114, 114, 111, 114] := List.mem_filter.2 ⟨List.mem_range.2 e3, e4⟩
  rw [oneErr] at hm
  obtain rfl := List.mem_singleton.1 hm
  have hh : typeHandle Tryz.prog 30 = .pointer (some ⟨20, 30, none⟩) := by kernel_rfl
  rw [hh] at e5
  unfold ETy
  simpa using World.var?_cell etNo e5 0

/-- The errors' texts, by kind: all begin alike. -/
def sentText : Nat → List UInt8
  | 1 => [100, 111, 118, 101, 116, 97, 105, 108, 58, 32, 97, 114, 103, 117, 109, 101, 110, 116]
  | 2 => [100, 111, 118, 101, 116, 97, 105, 108, 58, 32, 115, 121, 110, 116, 97, 120]
  | 3 => [100, 111, 118, 101, 116, 97, 105, 108, 58, 32, 98, 111, 117, 110, 100, 115]
  | 4 => [100, 111, 118, 101, 116, 97, 105, 108, 58, 32, 110, 111, 116, 32, 97, 110, 32, 111, 112, 101, 114, 97, 116, 111, 114, 32, 103, 114, 97, 109, 109, 97, 114]
  | 5 => [100, 111, 118, 101, 116, 97, 105, 108, 58, 32, 116, 119, 111, 32, 114, 101, 108, 97, 116, 105, 111, 110, 115]
  | 6 => [100, 111, 118, 101, 116, 97, 105, 108, 58, 32, 116, 111, 111, 32, 98, 105, 103]
  | 7 => [100, 111, 118, 101, 116, 97, 105, 108, 58, 32, 114, 101, 102, 117, 115, 101, 100]
  | 8 => [100, 111, 118, 101, 116, 97, 105, 108, 58, 32, 99, 117, 116]
  | 9 => [100, 111, 118, 101, 116, 97, 105, 108, 58, 32, 112, 108, 97, 110]
  | 10 => [100, 111, 118, 101, 116, 97, 105, 108, 58, 32, 110, 97, 109, 101]
  | 11 => [100, 111, 118, 101, 116, 97, 105, 108, 58, 32, 116, 114, 101, 101]
  | 12 => [100, 111, 118, 101, 116, 97, 105, 108, 58, 32, 108, 111, 110, 103]
  | 13 => [100, 111, 118, 101, 116, 97, 105, 108, 58, 32, 102, 111, 114, 109]
  | 14 => [100, 111, 118, 101, 116, 97, 105, 108, 58, 32, 115, 117, 109]
  | _ => [100, 111, 118, 101, 116, 97, 105, 108, 58, 32, 110, 111, 110, 101]
theorem sentText_inj : ∀ j k, 1 ≤ j → j ≤ 15 → 1 ≤ k → k ≤ 15 → sentText j = sentText k → j = k := by
  have h : ∀ j : Fin 16, ∀ k : Fin 16, 1 ≤ j.val → 1 ≤ k.val → sentText j.val = sentText k.val → j = k := by decide +kernel
  intro j k h1 h2 h3 h4 e
  exact congrArg Fin.val (h ⟨j, by omega⟩ ⟨k, by omega⟩ h1 h3 e)

/-- The fifteen errors, each by its text: their addresses differ. -/
theorem ge_of {W : World} (hs : 20 ≤ W.heap.size) (h : ∀ k, 1 ≤ k → k ≤ 15 → Sent W (gno k) (sentText k)) : ∃ e, GE W e := by
  have hx : ∀ k, ∃ a : Addr, 1 ≤ k → k ≤ 15 → ∃ s cs t, W.cell? ⟨gno k, 0, none⟩ = some (ev a) ∧ W.cell? a = some (.string s) ∧ s.data.toList = sentText k ∧ W.heap[a.block]? = some (.cells cs t (0, 0)) := by
    intro k
    by_cases hk : 1 ≤ k ∧ k ≤ 15
    · obtain ⟨a, s, cs, t, h1⟩ := h k hk.1 hk.2
      exact ⟨a, fun _ _ => ⟨s, cs, t, h1⟩⟩
    · exact ⟨⟨0, 0, none⟩, fun h1 h2 => absurd ⟨h1, h2⟩ hk⟩
  refine ⟨fun k => Classical.choose (hx k), hs, fun k h1 h2 => ?_, fun k h1 h2 => ?_, fun j k h1 h2 h3 h4 he => ?_, fun k h1 h2 => ?_⟩
  · obtain ⟨s, cs, t, hc, _⟩ := Classical.choose_spec (hx k) h1 h2
    exact hc
  · obtain ⟨s, cs, t, _, _, _, hb⟩ := Classical.choose_spec (hx k) h1 h2
    exact (Array.getElem?_eq_some_iff.1 hb).1
  · obtain ⟨s, cs, t, _, hs1, ht1, _⟩ := Classical.choose_spec (hx j) h1 h2
    obtain ⟨s', cs', t', _, hs2, ht2, _⟩ := Classical.choose_spec (hx k) h3 h4
    have he' : Classical.choose (hx j) = Classical.choose (hx k) := he
    rw [he', hs2] at hs1
    simp only [Option.some.injEq, Value.string.injEq] at hs1
    subst hs1
    exact sentText_inj j k h1 h2 h3 h4 (ht1.symm.trans ht2)
  · obtain ⟨s, cs, t, _, _, _, hb⟩ := Classical.choose_spec (hx k) h1 h2
    exact ⟨cs, t, hb⟩

theorem pow_ty : (Tryz.prog.globals[17]?).map (·.type) = some 175 := by kernel_rfl
end Go.Proofs.YtoidecclimhgjaaGreatDoor
