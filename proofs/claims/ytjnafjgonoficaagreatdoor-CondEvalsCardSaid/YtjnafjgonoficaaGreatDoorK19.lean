/-
  A slice of ints that came in, opened: its numbers lie in memory. Conditions: none.
-/
import Derived.Test.YtjnafjgonoficaaGreatDoorK16
namespace Go.Proofs.YtjnafjgonoficaaGreatDoor
open Go.ChangeShapes Go.WideShapes Go.ChangeAt Go.RowKit Go.WideMaps Go.WideElems
set_option linter.unusedVariables false
set_option linter.unusedSimpArgs false
theorem cells3 : Tryz.prog.cellsOf 3 = 1 := by kernel_rfl
theorem laid_out : laidOutB Tryz.prog = true := by kernel_rfl
set_option maxRecDepth 100000 in
theorem ints_arg {H : Type} {enc : TypeId × Value → H} {W : World} {base : Nat} {v : Value} {d : DataW H} {ps : List MemPlace} (hv : Value.okWide Tryz.prog W .any base 39 v) (h : DataW.Trod enc Tryz.prog W 0 (fun _ => true) true 39 v d ps) : ∃ ch, Ints W v ch := by
  obtain ⟨a, len, cap, rfl⟩ := okWide_slice Tryz.underlying39 hv
  obtain ⟨fuel, hf⟩ := h
  rcases open_ints Tryz.underlying39 Tryz.underlying3 cells3 hf with ⟨e, -⟩ | ⟨a', len', cap', zs, e, -, hlc, hcm, hzl, -, hc, -⟩
  · have e := List.head_eq_of_cons_eq e
    simp only [Value.slice.injEq] at e
    obtain ⟨rfl, rfl, rfl⟩ := e
    exact ⟨[], none, 0, rfl, Nat.le_refl _, Nat.zero_le _, .inl rfl⟩
  · have e := List.head_eq_of_cons_eq e
    simp only [Value.slice.injEq] at e
    obtain ⟨rfl, rfl, rfl⟩ := e
    rw [if_pos rfl] at hzl
    refine ⟨zs.take len, some a', cap, by rw [List.length_take, Nat.min_eq_left (by omega)], by rw [List.length_take]; omega, hcm, ?_⟩
    by_cases h0 : len = 0
    · exact .inl (by rw [h0, List.take_zero])
    · right
      obtain ⟨g, o, sp⟩ := a'
      have hsp : sp = none := by
        have := hc 0 (by omega)
        unfold World.cell? at this
        rw [show (Addr.add ⟨g, o, sp⟩ 0) = ⟨g, o, sp⟩ from rfl] at this
        dsimp only at this
        cases hb : W.heap[g]? with
        | none => rw [hb] at this; cases this
        | some x =>
          rw [hb] at this
          cases sp with
          | none => rfl
          | some y => cases x <;> simp at this
      subst hsp
      have hlt : g < W.heap.size := cell_lt (o := o) (hc 0 (by omega))
      refine ⟨g, o, rfl, fun i t ht => ?_, hlt⟩
      rw [List.getElem?_take] at ht
      split at ht
      · have hz := (List.getElem?_eq_some_iff.1 ht).1
        have h1 := hc i hz
        rw [List.getD_eq_getElem?_getD, ht] at h1
        rw [add_none] at h1
        exact h1
      · cases ht
end Go.Proofs.YtjnafjgonoficaaGreatDoor
