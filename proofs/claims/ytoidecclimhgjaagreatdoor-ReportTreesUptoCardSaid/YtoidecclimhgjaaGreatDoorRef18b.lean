/- dovetailref18.Tree: the words of its memory, and what its state keeps. -/
import Derived.Test.YtoidecclimhgjaaGreatDoorRef18a
import Derived.Test.YtoidecclimhgjaaGreatDoorPOpen
import Derived.Test.YtoidecclimhgjaaGreatDoorKit4
import Derived.Deep.LoopGhost
namespace Go.Proofs.YtoidecclimhgjaaGreatDoor
open Go.RowKit

def frCells (l : List (Nat × Nat)) : List Value := l.flatMap fun f => [.int .i64 f.1, .int .i64 f.2]
theorem frCells_length (l : List (Nat × Nat)) : (frCells l).length = l.length * 2 := by
  induction l with
  | nil => rfl
  | cons a l ih => simp only [frCells, List.flatMap_cons, List.length_append, List.length_cons, List.length_nil] at ih ⊢; omega
theorem frCells_snoc (l : List (Nat × Nat)) (f : Nat × Nat) : frCells (l ++ [f]) = frCells l ++ [.int .i64 f.1, .int .i64 f.2] := by simp [frCells]

structure OcOk (R : List Rl) (c : Oc) : Prop where
  rules : ∀ s ∈ c.tree, 0 ≤ s.1 ∧ s.1 < R.length
  open_ : ∀ f ∈ c.O, f.1 < c.tree.length ∧ f.2 ≤ (rt (R.map Rl.p) c.tree f.1).length
  room : c.toks.length + muO c.O ≤ 33 * c.tree.length
def Closed (R : List Rl) (c : Oc) : Prop := ∀ f O, c.O = f :: O → ∃ x, (rt (R.map Rl.p) c.tree f.1)[f.2]? = some x ∧ x < 0

theorem mem_modify1 {l : List (Int × Int × Int)} {i : Nat} {p : Int} {s : Int × Int × Int} (h : s ∈ l.modify i fun t => (t.1, t.2.1, p)) : ∃ s' ∈ l, s'.1 = s.1 := by
  obtain ⟨j, hj, rfl⟩ := List.mem_iff_getElem.1 h
  rw [List.length_modify] at hj
  refine ⟨l[j], List.getElem_mem hj, ?_⟩
  rw [List.getElem_modify]
  split <;> rfl
theorem OcOk.shut_ {R : List Rl} {c : Oc} {i d : Nat} {O : List (Nat × Nat)} (h : OcOk R c) (hO : c.O = (i, d) :: O) : OcOk R (c.shut i O) := {
  rules := fun s hs => by
    obtain ⟨s', h1, h2⟩ := mem_modify1 hs
    rw [← h2]; exact h.rules s' h1
  open_ := fun f hf => by
    have := h.open_ f (by rw [hO]; exact List.mem_cons_of_mem _ hf)
    simp only [Oc.shut, List.length_modify, rt_modify]
    exact this
  room := by
    have := h.room
    rw [hO, muO_cons] at this
    simp only [Oc.shut, List.length_modify]
    omega }
theorem OcOk.tok_ {R : List Rl} {c : Oc} {i d : Nat} {O : List (Nat × Nat)} {x : Int} (h : OcOk R c) (h32 : ∀ r ∈ R, r.right.length ≤ 32) (hO : c.O = (i, d) :: O) (hd : (rt (R.map Rl.p) c.tree i)[d]? = some x) : OcOk R (c.tok x ((i, d + 1) :: O)) := {
  rules := h.rules
  open_ := fun f hf => by
    have hdl : d < (rt (R.map Rl.p) c.tree i).length := (List.getElem?_eq_some_iff.1 hd).1
    simp only [Oc.tok, List.mem_cons] at hf ⊢
    rcases hf with rfl | hf
    · exact ⟨(h.open_ (i, d) (by rw [hO]; exact List.mem_cons_self)).1, hdl⟩
    · exact h.open_ f (by rw [hO]; exact List.mem_cons_of_mem _ hf)
  room := by
    have hdl : d < 32 := Nat.lt_of_lt_of_le (List.getElem?_eq_some_iff.1 hd).1 (rt_le (fun r hr => by obtain ⟨q, hq, rfl⟩ := List.mem_map.1 hr; exact h32 q hq) _ _)
    have := h.room
    rw [hO, muO_cons] at this
    simp only [Oc.tok, muO_cons, List.length_append, List.length_cons, List.length_nil]
    omega }
theorem OcOk.push_ {R : List Rl} {c : Oc} {n : Int} {O : List (Nat × Nat)} (h : OcOk R c) (hn : 0 ≤ n ∧ n < R.length) (hO : ∀ f ∈ O, f.1 < c.tree.length ∧ f.2 ≤ (rt (R.map Rl.p) c.tree f.1).length) (hm : muO O ≤ muO c.O) : OcOk R (c.push n O) := {
  rules := fun s hs => by
    simp only [Oc.push, List.mem_append, List.mem_singleton] at hs
    rcases hs with hs | rfl
    · exact h.rules s hs
    · exact hn
  open_ := fun f hf => by
    simp only [Oc.push, List.mem_cons, List.length_append, List.length_cons, List.length_nil] at hf ⊢
    rcases hf with rfl | hf
    · exact ⟨by simp, Nat.zero_le _⟩
    · have := hO f hf
      rw [rt_append this.1]
      exact ⟨by omega, this.2⟩
  room := by
    have := h.room
    simp only [Oc.push, muO_cons, List.length_append, List.length_cons, List.length_nil]
    omega }
theorem rt_eq {R : List Rl} {tree : List (Int × Int × Int)} {i m : Nat} (hi : i < tree.length) (hm : m < R.length) (h : tree[i].1 = m) : rt (R.map Rl.p) tree i = R[m].right := by
  unfold rt
  rw [List.getElem?_eq_getElem hi]
  simp only [h, Int.toNat_natCast, List.getElem?_map, List.getElem?_eq_getElem hm, Option.map_some, Rl.p]

/-- The three rows of the walk. -/
structure TM (w : World) (base : Nat) (At Ak Ao : Option Addr) (ct ck co : Nat) (c : Oc) : Prop where
  t : w.ownsRow base 42 3 (.slice At c.tree.length ct) c.tree.length (stepCells c.tree)
  k : w.ownsRow base 3 1 (.slice Ak c.toks.length ck) c.toks.length (nums c.toks)
  o : w.ownsRow base 120 2 (.slice Ao c.O.length co) c.O.length (frCells c.O.reverse)
theorem TM.alloc {w : World} {base : Nat} {At Ak Ao : Option Addr} {ct ck co : Nat} {c : Oc} (h : TM w base At Ak Ao ct ck co c) (o : Obj) : TM (w.alloc o) base At Ak Ao ct ck co c := ⟨h.t.alloc o, h.k.alloc o, h.o.alloc o⟩
theorem TM.drewN {w : World} {base : Nat} {At Ak Ao : Option Addr} {ct ck co : Nat} {c : Oc} (h : TM w base At Ak Ao ct ck co c) (n : Nat) : TM (w.drewN n) base At Ak Ao ct ck co c := ⟨h.t, h.k, h.o⟩

/-- A row without its last element. -/
theorem own_cut {w : World} {base : Nat} {e : TypeId} {size n c : Nat} {A : Option Addr} {xs ys : List Value} (h : w.ownsRow base e size (.slice A (n + 1) c) (n + 1) (xs ++ ys)) (hy : ys.length = size) : w.ownsRow base e size (.slice A n c) n xs := by
  have hl : xs.length = n * size := by have := h.1; rw [List.length_append, hy, Nat.add_mul, Nat.one_mul] at this; omega
  refine ⟨hl, ?_⟩
  rcases h.2 with ⟨_, h0⟩ | ⟨g, cap, cur, hv, hg, hh, hc, hm, hs, ht⟩
  · omega
  · simp only [Value.slice.injEq, true_and] at hv
    obtain ⟨rfl, rfl⟩ := hv
    refine .inr ⟨g, c, cur, rfl, hg, hh, by omega, hm, hs, ?_⟩
    have h2 : (cur.toList.take ((n + 1) * size)).take (n * size) = xs := by rw [ht, ← hl]; exact List.take_left
    rw [List.take_take] at h2
    rw [← h2]
    congr 1
    have : n * size ≤ (n + 1) * size := Nat.mul_le_mul_right _ (by omega)
    omega
/-- The last frame: where it lies. -/
theorem own_last {w : World} {base : Nat} {c : Nat} {A : Option Addr} {l : List (Nat × Nat)} {i d : Nat} (h : w.ownsRow base 120 2 (.slice A (l.length + 1) c) (l.length + 1) (frCells (l ++ [(i, d)]))) :
    ∃ g, A = some ⟨g, 0, none⟩ ∧ base ≤ g ∧ g < w.heap.size ∧ w.cell? ⟨g, l.length * 2, none⟩ = some (.int .i64 i) ∧ w.cell? ⟨g, l.length * 2 + 1, none⟩ = some (.int .i64 d) ∧ ∀ j, w.frozen? ⟨g, j, none⟩ = false := by
  obtain ⟨g, cap, hv, hg, hlt⟩ := h.form (by omega)
  simp only [Value.slice.injEq, true_and] at hv
  obtain ⟨rfl, rfl⟩ := hv
  refine ⟨g, rfl, hg, hlt, ?_, ?_, fun j => h.frozenAt j⟩
  · rw [h.cellAt _ (by omega), frCells_snoc, List.getElem?_append_right (by rw [frCells_length]; omega), frCells_length, Nat.sub_self]; rfl
  · rw [h.cellAt _ (by omega), frCells_snoc, List.getElem?_append_right (by rw [frCells_length]; omega), frCells_length, Nat.add_sub_cancel_left]; rfl
theorem frCells_set (l : List (Nat × Nat)) (i d d' : Nat) : (frCells (l ++ [(i, d)])).set (l.length * 2 + 1) (.int .i64 d') = frCells (l ++ [(i, d')]) := by
  rw [frCells_snoc, frCells_snoc, List.set_append_right _ _ (by rw [frCells_length]; omega), frCells_length, Nat.add_sub_cancel_left]; rfl

/-- The whole walk's answer: none: no tree. -/
def t18F (R : List (Int × List Int)) (root from_ : Int) (ru : List Int) : Option Oc := (runF R root from_ ru).bind fun c => if ru ≠ [] ∧ c.O = [] then some c else none
def T18End (w : World) (r : Option Oc) (en : Ending) (w' : World) : Prop :=
  Below w.heap.size w w' ∧ match r with
    | some c => ∃ At Ak ct ck dp, en = .returned (.tuple #[.slice At c.tree.length ct, .slice Ak c.toks.length ck, .int .i64 dp, .bool true]) ∧ Row w' w'.heap.size At (stepCells c.tree) ∧ Row w' w'.heap.size Ak (nums c.toks)
    | none => ∃ a b d, en = .returned (.tuple #[a, b, d, .bool false])
theorem runF_none {R : List (Int × List Int)} {root from_ : Int} {ru : List Int} {k : Nat} {c : Oc} (hk : k < ru.length) (h : runF R root from_ (ru.take k) = some c) (hp : pushF R root c ru[k] = none) : t18F R root from_ ru = none := by
  unfold t18F runF
  unfold runF at h
  rw [fold_none hk h (by rw [stepF, hp]; rfl)]
  rfl
theorem runF_some {R : List (Int × List Int)} {root from_ : Int} {ru : List Int} {k : Nat} {c c1 : Oc} (hk : k < ru.length) (h : runF R root from_ (ru.take k) = some c) (hp : pushF R root c ru[k] = some c1) : runF R root from_ (ru.take (k + 1)) = some (close R c1) := by
  unfold runF at h ⊢
  exact fold_next hk h (by rw [stepF, hp]; rfl)
theorem muO_ge (O : List (Nat × Nat)) : O.length ≤ muO O := by
  induction O with
  | nil => simp [muO]
  | cons f O ih => rw [muO_cons, List.length_cons]; omega
theorem pushF_zero {R : List Rl} {root : Int} {c : Oc} {m : Nat} (hm : m < R.length) (h : c.tree = []) : pushF (R.map Rl.p) root c m = if 0 ≤ root ∧ R[m].left ≠ root then none else some (c.push m c.O) := by
  unfold pushF
  rw [if_neg (by omega), Int.toNat_natCast, List.getElem?_map, List.getElem?_eq_getElem hm]
  simp only [Option.map_some, Rl.p, h, if_true]
theorem pushF_nil {R : List Rl} {root : Int} {c : Oc} {m : Nat} (hm : m < R.length) (h : c.tree ≠ []) (hO : c.O = []) : pushF (R.map Rl.p) root c m = none := by
  unfold pushF
  rw [if_neg (by omega), Int.toNat_natCast, List.getElem?_map, List.getElem?_eq_getElem hm]
  simp only [Option.map_some, Rl.p, h, if_false, hO]
theorem pushF_cons {R : List Rl} {root : Int} {c : Oc} {m i d : Nat} {O : List (Nat × Nat)} (hm : m < R.length) (h : c.tree ≠ []) (hO : c.O = (i, d) :: O) :
    pushF (R.map Rl.p) root c m = if (rt (R.map Rl.p) c.tree i)[d]? = some (-1 - R[m].left) then some (c.push m ((i, d + 1) :: O)) else none := by
  unfold pushF
  rw [if_neg (by omega), Int.toNat_natCast, List.getElem?_map, List.getElem?_eq_getElem hm]
  simp only [Option.map_some, Rl.p, h, if_false, hO]
end Go.Proofs.YtoidecclimhgjaaGreatDoor
