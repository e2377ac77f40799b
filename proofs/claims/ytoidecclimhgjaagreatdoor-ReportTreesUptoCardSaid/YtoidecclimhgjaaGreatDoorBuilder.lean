/- strings.Builder at the head of a block of the call's own (a variable, or an embedded one). -/
import Derived.Test.YtoidecclimhgjaaGreatDoorWalker
import Derived.Lib.Builder
import Derived.Lib.AppendStr
import Derived.Lib.UnsafeStr
namespace Go.Proofs.YtoidecclimhgjaaGreatDoor
open Go.RowKit

/-- A block of type T, of n cells, begins with a strings.Builder. -/
structure BT (T : TypeId) (n : Nat) : Prop where
  lies : liesAt Tryz.prog Tryz.prog.depth T (n / Tryz.prog.cellsOf T) 0 50 1 = true
  ne : 5 ≠ T
theorem bt_builder : BT 50 2 := ⟨by kernel_rfl, by decide⟩

/-- The builder at block g holds the bytes bs; rest: what lies behind it in the block. -/
def Bld (w : World) (B g : Nat) (T : TypeId) (rest : List Value) (bs : List UInt8) : Prop :=
  B ≤ g ∧ ∃ p A c, (p = none ∨ p = some ⟨g, 0, none⟩) ∧ Blk w g T (.pointer p :: .slice A bs.length c :: rest).toArray ∧ w.ownsRow B 5 1 (.slice A bs.length c) bs.length (Lib.byteCells bs)
theorem Bld.below {w w' : World} {B B' g : Nat} {T : TypeId} {rest : List Value} {bs : List UInt8} (h : Bld w B g T rest bs) (hb : Below B' w w') (hB : w.heap.size ≤ B') : Bld w' B g T rest bs := by
  obtain ⟨h1, p, A, c, hp, hB1, ho⟩ := h
  refine ⟨h1, p, A, c, hp, hB1.below hb (Nat.lt_of_lt_of_le hB1.lt hB), ho.kept (row := none) ⟨hb.os, hb.tape, hb.output, hb.size, fun k hk _ => hb.block k (by omega)⟩ (by cases (Value.slice A bs.length c).ownBlock <;> simp)⟩
theorem Bld.lt {w : World} {B g : Nat} {T : TypeId} {rest : List Value} {bs : List UInt8} (h : Bld w B g T rest bs) : g < w.heap.size := by
  obtain ⟨_, p, A, c, hp, hB1, ho⟩ := h; exact hB1.lt
theorem Bld.fresh (w : World) (T : TypeId) (rest : List Value) : Bld (w.alloc (.cells (.pointer none :: .slice none 0 0 :: rest).toArray T)) w.heap.size w.heap.size T rest [] :=
  ⟨Nat.le_refl _, none, none, 0, .inl rfl, Blk.new _ _ _, World.ownsRow_nil _ _ _ _⟩

theorem Tryz.info5 : (Tryz.prog.info? 5).map (fun i => (i.zero, i.size, i.bytes)) = some (some (.int .u8 0), 1, 1) := by kernel_rfl
theorem bld_size : (Tryz.prog.info? 50).map (·.size) = some 2 := by kernel_rfl

/-- Blocks of other types than uint8, other than g, stay. -/
def Keeps (w : World) (g : Nat) (w' : World) : Prop := ∀ k t cs, k ≠ g → t ≠ 5 → Blk w k t cs → Blk w' k t cs
theorem Keeps.refl (w : World) (g : Nat) : Keeps w g w := fun _ _ _ _ _ h => h
theorem Keeps.trans {w w' w'' : World} {g : Nat} (h : Keeps w g w') (h' : Keeps w' g w'') : Keeps w g w'' := fun k t cs hk ht hb => h' k t cs hk ht (h k t cs hk ht hb)
theorem Keeps.setCell {w w' : World} {g : Nat} (h : Keeps w g w') (i : Nat) (v : Value) : Keeps w g (w'.setCell ⟨g, i, none⟩ v) := fun k t cs hk ht hb => (h k t cs hk ht hb).grown (setFar w' g i v) (by simpa using hk)

set_option maxHeartbeats 1000000 in
set_option maxRecDepth 100000 in
theorem copyCheck_any (T : TypeId) (rest : List Value) (ht : BT T (rest.length + 2)) (B g : Nat) (bs : List UInt8) (w : World) (h : Bld w B g T rest bs) :
    Calls Tryz.prog 58 #[.pointer (some ⟨g, 0, none⟩)] w fun en w' => en = .returned (.tuple #[]) ∧ Below B w w' ∧ Bld w' B g T rest bs ∧ w'.cell? ⟨g, 0, none⟩ = some (.pointer (some ⟨g, 0, none⟩)) ∧ Keeps w g w' := by
  obtain ⟨hB, p, A, c, hp, hk, ho⟩ := h
  obtain ⟨j, hj, hjs⟩ := Option.map_eq_some_iff.1 bld_size
  have h0 : w.cell? ⟨g, 0, none⟩ = some (.pointer p) := hk.cell 0
  rcases hp with rfl | rfl
  · have hf := hk.frozen 0
    have hsh : w.shape? g = some (T, rest.length + 2) := by have := hk; unfold Blk at this; simp [World.shape?, this]
    go_enter Tryz.func58, Tryz.ntmps58
    go_wp2
    rw [Lib.run_to_unsafe w ⟨g, 0, none⟩ Tryz.underlying47 Tryz.underlying126 hj (by rw [hjs]; decide) hsh (by simp)]
    simp only [Result.andThen]
    rw [Oper.upon_value]
    go_wp2
    rw [run_callFunc_extern Tryz.func83 (by kernel_rfl) (by kernel_rfl) (by kernel_rfl) (e := Extern.AbiNoEscape.same) (by kernel_rfl)]
    rw [Lib.run_noEscape]
    simp only [Result.andThen]
    rw [Oper.upon_value]
    go_wp2
    rw [Lib.run_from_unsafe w ⟨g, 0, none⟩ Tryz.underlying126 Tryz.underlying47 hj hsh ht.lies]
    simp only [Result.andThen]
    rw [Oper.upon_value]
    go_wp2
    go_end0
    have hs := hk.set_ 0 (.pointer (some ⟨g, 0, none⟩))
    simp only [List.setIfInBounds_toArray, List.set_cons_zero] at hs
    exact ⟨rfl, (Below.refl B w).setCell (p := ⟨g, 0, none⟩) hB _, ⟨hB, _, A, c, .inr rfl, hs, own_setFar ho hk ht.ne 0 _⟩, hs.cell 0, (Keeps.refl w g).setCell 0 _⟩
  · go_enter Tryz.func58, Tryz.ntmps58
    go_wp2
    rw [Lib.run_neq_ptr_same w _ Tryz.underlying47 hj]
    go_wp2
    go_end0
    exact ⟨rfl, Below.refl _ _, ⟨hB, _, A, c, .inr rfl, hk, ho⟩, h0, Keeps.refl w g⟩

/-- What a writing method leaves. -/
def Wrote (w : World) (B g : Nat) (T : TypeId) (rest : List Value) (bs : List UInt8) (v : Value) (en : Ending) (w' : World) : Prop :=
  en = .returned v ∧ Below B w w' ∧ Bld w' B g T rest bs

set_option maxHeartbeats 2000000 in
set_option maxRecDepth 100000 in
theorem writeString_keeps (T : TypeId) (rest : List Value) (ht : BT T (rest.length + 2)) (B g : Nat) (bs : List UInt8) (s : ByteArray) (w : World) (h : Bld w B g T rest bs) (hlen : bs.length + s.size ≤ 140737488355328) (hBw : B ≤ w.heap.size) :
    Calls Tryz.prog 34 #[.pointer (some ⟨g, 0, none⟩), .string s] w (fun en w' => Wrote w B g T rest (bs ++ s.data.toList) (.tuple #[.int .i64 s.size, .nilIface]) en w' ∧ Keeps w g w') := by
  obtain ⟨i0, hi, hz0, hz1, hz2⟩ := info_parts Tryz.info5
  have hc := Lib.hid (copyCheck_any T rest ht B g bs w h)
  go_enter Tryz.func34, Tryz.ntmps34
  go_wp2_with fail
  refine hc.out.mono ?_
  rintro en w1 ⟨rfl, hb1, ⟨hB, p, A, c, hp, hk, ho⟩, _, hK1⟩
  have c1 : w1.cell? ⟨g, 1, none⟩ = some (.slice A bs.length c) := hk.cell 1
  have hz := hb1.size
  go_wp2_with (at_builtin; refine Lib.wpList_append_own_string _ rfl _ _ 48 9 rfl B 5 i0 Tryz.underlying48 Tryz.underlying9 hi hz0 hz1 hz2 _ _ _ rfl ho s rfl (by unfold maxLen; omega) (by omega) (by omega) ?_; intro v' w2 ho2 hg2 _; obtain ⟨A2, c2, rfl⟩ := own_form ho2; have hk2 : Blk w2 g T _ := hk.grown hg2 (fun h => own_ne ho hk ht.ne h.symm); have d1 : w2.cell? ⟨g, 1, none⟩ = some (.slice A bs.length c) := hk2.cell 1; have f1 := hk2.frozen 1)
  go_ret2
  have hl : (bs ++ s.data.toList).length = bs.length + s.size := by simp
  have hKg : Keeps w1 g w2 := fun k t cs hk' ht hb => hb.grown hg2 (fun h => own_ne ho hb (Ne.symm ht) h.symm)
  refine ⟨⟨rfl, (hb1.grown hg2 (by omega) (fun k hk => (ho.lt k hk).1)).setCell (p := ⟨g, 1, none⟩) hB _, hB, p, A2, c2, hp, ?_, ?_⟩, (hK1.trans hKg).setCell 1 _⟩
  · have := hk2.set_ 1 (.slice A2 (bs.length + s.size) c2)
    simp only [List.setIfInBounds_toArray, List.set_cons_succ, List.set_cons_zero] at this
    rw [hl]; exact this
  · rw [hl]
    have := own_setFar ho2 hk2 ht.ne 1 (.slice A2 (bs.length + s.size) c2)
    simpa [Lib.byteCells, Lib.strCells] using this

theorem writeString_any (T : TypeId) (rest : List Value) (ht : BT T (rest.length + 2)) (B g : Nat) (bs : List UInt8) (s : ByteArray) (w : World) (h : Bld w B g T rest bs) (hlen : bs.length + s.size ≤ 140737488355328) (hBw : B ≤ w.heap.size) :
    Calls Tryz.prog 34 #[.pointer (some ⟨g, 0, none⟩), .string s] w (Wrote w B g T rest (bs ++ s.data.toList) (.tuple #[.int .i64 s.size, .nilIface])) :=
  (writeString_keeps T rest ht B g bs s w h hlen hBw).mono fun _ _ h => h.1

set_option maxHeartbeats 2000000 in
set_option maxRecDepth 100000 in
theorem writeByte_any (T : TypeId) (rest : List Value) (ht : BT T (rest.length + 2)) (B g : Nat) (bs : List UInt8) (x : UInt8) (w : World) (h : Bld w B g T rest bs) (hlen : bs.length + 1 ≤ 140737488355328) (hBw : B ≤ w.heap.size) :
    Calls Tryz.prog 57 #[.pointer (some ⟨g, 0, none⟩), .int .u8 x.toNat] w (Wrote w B g T rest (bs ++ [x]) .nilIface) := by
  obtain ⟨i0, hi, hz0, hz1, hz2⟩ := info_parts Tryz.info5
  have hc := Lib.hid (copyCheck_any T rest ht B g bs w h)
  obtain ⟨y, Hy⟩ : ∃ y : Int, Hid ((x.toNat : Int) = y) := ⟨_, Lib.hid rfl⟩
  rw [Hy.out]
  go_enter Tryz.func57, Tryz.ntmps57
  go_wp2_with fail
  refine hc.out.mono ?_
  rintro en w1 ⟨rfl, hb1, ⟨hB, p, A, c, hp, hk, ho⟩, _⟩
  have c1 : w1.cell? ⟨g, 1, none⟩ = some (.slice A bs.length c) := hk.cell 1
  have hz := hb1.size
  have Hnew : Hid (∀ (j : Nat) (u : Value), [Value.int .u8 y][j]? = some u → (w1.alloc (.cells #[.int .u8 y] 5)).cell? ((⟨w1.heap.size, 0, none⟩ : Addr).add j) = some u) := Lib.hid (World.news_of_block (heap_alloc_new w1 _))
  go_wp2_with (at_builtin; refine wpList_append_own _ rfl _ _ 48 rfl B 5 i0 (.int .u8 0) 1 1 Tryz.underlying48 hi hz0 hz1 hz2 rfl (by decide) _ _ _ rfl (ho.alloc _) ⟨w1.heap.size, 0, none⟩ 1 1 [.int .u8 y] rfl rfl Hnew.out (by intro u hu; simp at hu; subst hu; rfl) (by unfold maxLen; omega) (by omega) (by simp; omega) ?_; intro v' w2 ho2 hg2 _; obtain ⟨A2, c2, rfl⟩ := own_form ho2; have hk2 : Blk w2 g T _ := (hk.alloc _).grown hg2 (fun h => own_ne ho hk ht.ne h.symm); have d1 : w2.cell? ⟨g, 1, none⟩ = some (.slice A bs.length c) := hk2.cell 1; have f1 := hk2.frozen 1)
  go_ret
  have hl : (bs ++ [x]).length = bs.length + 1 := by simp
  refine ⟨rfl, ((hb1.alloc (by omega) _).grown hg2 (by simp; omega) (fun k hk => (ho.lt k hk).1)).setCell (p := ⟨g, 1, none⟩) hB _, hB, p, A2, c2, hp, ?_, ?_⟩
  · have := hk2.set_ 1 (.slice A2 (bs.length + 1) c2)
    simp only [List.setIfInBounds_toArray, List.set_cons_succ, List.set_cons_zero] at this
    rw [hl]; exact this
  · rw [hl]
    have := own_setFar ho2 hk2 ht.ne 1 (.slice A2 (bs.length + 1) c2)
    simpa [Lib.byteCells, Hy.out] using this

set_option maxHeartbeats 1000000 in
theorem builderLen_any (T : TypeId) (rest : List Value) (B g : Nat) (bs : List UInt8) (w : World) (h : Bld w B g T rest bs) :
    Calls Tryz.prog 15 #[.pointer (some ⟨g, 0, none⟩)] w (Quiet w (.int .i64 bs.length)) := by
  obtain ⟨hB, p, A, c, hp, hk, ho⟩ := h
  have c1 : w.cell? ⟨g, 1, none⟩ = some (.slice A bs.length c) := hk.cell 1
  go_enter Tryz.func15, Tryz.ntmps15
  go_wp2
  go_ret
  exact ⟨rfl, 0, rfl⟩

theorem byte_cells : Tryz.prog.cellsOf 5 = 1 := by kernel_rfl
set_option maxHeartbeats 2000000 in
set_option maxRecDepth 100000 in
theorem builderString_any (T : TypeId) (rest : List Value) (B g : Nat) (l : List UInt8) (w : World) (h : Bld w B g T rest l) (h0 : l ≠ []) :
    Calls Tryz.prog 20 #[.pointer (some ⟨g, 0, none⟩)] w fun en w' => en = .returned (.string ⟨l.toArray⟩) ∧ Below B w w' := by
  obtain ⟨hB, p, A, c, hp, hk, ho⟩ := h
  have hl0 : l.length ≠ 0 := by simpa using h0
  obtain ⟨gb, cap, cur, hv, hbg, hg, hnc, hcm, hcs, htake⟩ : ∃ gb cap cur, Value.slice A l.length c = .slice (some ⟨gb, 0, none⟩) l.length cap ∧ B ≤ gb ∧ w.heap[gb]? = some (.cells cur 5 (0, 0)) ∧ l.length ≤ cap ∧ cap ≤ maxLen ∧ cur.size = cap * 1 ∧ cur.toList.take (l.length * 1) = Lib.byteCells l := by
    rcases ho.2 with ⟨_, hz⟩ | ⟨g, cap, cur, hv, r⟩
    · exact absurd hz hl0
    · exact ⟨g, cap, cur, hv, r⟩
  simp only [Value.slice.injEq, true_and] at hv
  obtain ⟨rfl, rfl⟩ := hv
  have c1 : w.drew.cell? ⟨g, 1, none⟩ = some (.slice (some ⟨gb, 0, none⟩) l.length c) := hk.cell 1
  have hSD : (Builtin.unsafeSliceData_ #[48] 85 #[.slice (some ⟨gb, 0, none⟩) l.length c]).run Tryz.prog w.drew = .ok (.pointer (some ⟨gb, 0, none⟩)) w.drew :=
    Lib.run_unsafeSliceData_row _ _ _ _ _ _ (by omega)
  have hUS : (Builtin.unsafeString_ #[85, 3] 9 #[.pointer (some ⟨gb, 0, none⟩), .int .i64 l.length]).run Tryz.prog w.drew = .ok (.string ⟨l.toArray⟩) (w.drew.freeze ⟨gb, 0, none⟩ l.length) := by
    refine Lib.run_unsafeString_row w.drew 85 3 9 5 Tryz.underlying85 byte_cells gb cur.size (by have hg' : w.drew.heap[gb]? = some (.cells cur 5 (0, 0)) := hg; simp [World.shape?, hg']) l h0 (by omega) (by unfold maxLen at hcm; omega) ?_
    intro j x hx
    have := ho.cells (g := gb) rfl j (.int .u8 x.toNat) (by simp [Lib.byteCells, hx])
    exact this
  go_enter Tryz.func20, Tryz.ntmps20
  go_wp2
  go_region
  all_goals (go_wp2; go_ret; exact ⟨rfl, Lib.below_freeze (Below.drew (Below.refl B w)) (p := ⟨gb, 0, none⟩) hbg _⟩)
end Go.Proofs.YtoidecclimhgjaaGreatDoor
