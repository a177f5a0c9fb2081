/-
  What CondViews comes to: true. Conditions: the choice lies in memory; the library's variables are as their text lays them.
  A slice of ints that came in, opened: its numbers lie in memory. Conditions: none.
-/
import Derived.Test.YtjnafjgonoficaaGreatDoorK18
import Derived.Test.YtjnafjgonoficaaGreatDoorK16
namespace Go.Proofs.YtjnafjgonoficaaGreatDoor
open Go.RowKit Go.Proofs.YtjnafjgonoficaaGreatDoorW.PrintWords
set_option linter.unusedVariables false
set_option linter.unusedSimpArgs false
theorem eq_same (v1 v2 : Value) (l : List Int) (hl : l.length ≤ 1000000) (w : World) (h1 : Ints w v1 l) (h2 : Ints w v2 l) (W : World) (hb : Below w.heap.size w W) : Calls Tryz.prog 18 #[v1, v2] W fun e w' => e = .returned (.bool true) ∧ Below w.heap.size w w' := by
  refine (eqInts_calls v1 v2 l W hl (h1.below hb) (h2.below hb)).mono ?_
  rintro e w' ⟨h3, h4⟩
  exact ⟨h3, hb.trans ((below_drawn h4).mono hb.size)⟩
set_option maxRecDepth 100000 in
set_option maxHeartbeats 8000000 in
theorem views_calls (s : ByteArray) (cv : Value) (ch : List Int) (w : World) (hI : Ints w cv ch) (hL : Laid w) (hAW : AwC) : Calls Tryz.prog 4 #[.string s, cv] w fun e w' => e = .returned (.bool true) ∧ Below w.heap.size w w' := by
  have HLD := Aside0.mk hL
  have HI := Aside0.mk hI
  obtain ⟨CA, CC, rfl, -, -, -⟩ := hI
  obtain ⟨cn, hcn⟩ : ∃ cn, ch.length = cn := ⟨_, rfl⟩
  rw [hcn] at HI ⊢
  clear hL
  by_cases hs : 3000 < s.size
  · have HSC := Aside0.mk (scanned_long s w hs)
    clear hs hcn
    go_enter Tryz.func4, Tryz.ntmps4
    go_wp2_with (first | (go_at_call 10; (with_reducible refine HSC.out.mono ?_); rintro e w' ⟨rfl, rfl⟩))
    go_ret
    exact ⟨rfl, Below.refl _ _⟩
  · have HSC := Aside0.mk (scanned_calls s w (by omega))
    have hsl : ∀ t ∈ Lx.scan s, t.t.size ≤ 20000 := fun t ht => by have := toks_short s 0 true t ht; omega
    have hlen := scan_len s
    obtain ⟨L, hLL⟩ : ∃ L, Lx.scan s = L := ⟨_, rfl⟩
    rw [hLL] at HSC hsl hlen
    by_cases hc : 300 < cn
    · have hd : decide ((300 : Int) < (cn : Int)) = true := decide_eq_true (by omega)
      clear hs hsl hlen hLL hc hcn
      go_enter Tryz.func4, Tryz.ntmps4
      go_wp2_with (first | (go_at_call 10; (with_reducible refine HSC.out.mono ?_); rintro e w1 ⟨v, rfl, hv, hb⟩; have HB1 := Aside0.mk hb; clear hv hb))
      go_ret
      exact ⟨rfl, HB1.out⟩
    · have hd : decide ((300 : Int) < (cn : Int)) = false := decide_eq_false (by omega)
      obtain ⟨e0, V, hV, hv20, hv21⟩ := both_views L ch (by omega) (by omega) hsl
      obtain ⟨e1, X, hX, hf22, hf23⟩ := both_firsts L (by omega) hsl
      have H20 := Aside0.mk hv20
      have H21 := Aside0.mk hv21
      have H22 := Aside0.mk hf22
      have H23 := Aside0.mk hf23
      clear hs hsl hlen hLL hc hcn hv20 hv21 hf22 hf23
      go_enter Tryz.func4, Tryz.ntmps4
      go_wp2_with (first
        | (go_at_call 10; (with_reducible refine HSC.out.mono ?_); rintro e w1 ⟨v, rfl, hv, hb⟩; have HT := Aside0.mk (own_tks hv); have HB1 := Aside0.mk hb; have HL1 := Aside0.mk (HLD.out.below hb); have HI1 := Aside0.mk (HI.out.below hb); clear hv hb) | (go_at_call 20; (refine (H20.out _ _ w1 HT.out HI1.out HL1.out).mono ?_); rintro e w2 ⟨ra, rfl, hi, hb⟩; have HB2 := Aside0.mk (HB1.out.trans (hb.mono HB1.out.size)); have HA2 := Aside0.mk hi; have HT2 := Aside0.mk (HT.out.below hb); have HL2 := Aside0.mk (HL1.out.below hb); have HI2 := Aside0.mk (HI1.out.below hb); clear hi hb) | (go_at_call 21; (refine (H21.out _ _ w2 HT2.out HI2.out HL2.out).mono ?_); rintro e w3 ⟨rb, rfl, hi, hb⟩; have HB3 := Aside0.mk (HB2.out.trans (hb.mono HB2.out.size)); have HA3 := Aside0.mk (HA2.out.below hb); have HR3 := Aside0.mk hi; have HT3 := Aside0.mk (HT2.out.below hb); have HL3 := Aside0.mk (HL2.out.below hb); clear hi hb) | (go_at_call 22; (refine (H22.out _ w3 HT3.out HL3.out).mono ?_); rintro e w4 ⟨rx, rfl, hi, hb⟩; have HB4 := Aside0.mk (HB3.out.trans (hb.mono HB3.out.size)); have HA4 := Aside0.mk (HA3.out.below hb); have HR4 := Aside0.mk (HR3.out.below hb); have HX4 := Aside0.mk hi; have HT4 := Aside0.mk (HT3.out.below hb); have HL4 := Aside0.mk (HL3.out.below hb); clear hi hb) | (go_at_call 23; (refine (H23.out _ w4 HT4.out HL4.out).mono ?_); rintro e w5 ⟨ry, rfl, hi, hb⟩; have HB5 := Aside0.mk (HB4.out.trans (hb.mono HB4.out.size)); have HL5 := Aside0.mk (HL4.out.below hb); have HE1 := Aside0.mk (eq_same ra rb V hV w5 (HA4.out.below hb) (HR4.out.below hb)); have HE2 := Aside0.mk (eq_same rx ry X hX w5 (HX4.out.below hb) hi); clear hi hb) | (go_at_call 18; (with_reducible refine (HE1.out _ (Below.refl _ _)).mono ?_); rintro e w6 ⟨rfl, hb⟩; have HB6 := Aside0.mk hb; clear hb) | (go_at_call 18; (with_reducible refine (HE2.out _ HB6.out).mono ?_); rintro e w7 ⟨rfl, hb⟩; have HB7 := Aside0.mk hb; clear hb) | (go_at_call 19; (refine (hAW w7 (HL5.out.below HB7.out)).mono ?_); rintro e w8 ⟨rfl, hb⟩; have HB8 := Aside0.mk ((HB5.out.trans (HB7.out.mono HB5.out.size)).trans (hb.mono (Nat.le_trans HB5.out.size HB7.out.size))); clear hb))
      go_ret
      exact ⟨rfl, HB8.out⟩
end Go.Proofs.YtjnafjgonoficaaGreatDoor
namespace Go.Proofs.YtjnafjgonoficaaGreatDoor
open Go.ChangeShapes Go.WideShapes Go.ChangeAt Go.RowKit Go.WideMaps Go.WideElems
set_option linter.unusedVariables false
set_option linter.unusedSimpArgs false
theorem cells3 : Tryz.prog.cellsOf 3 = 1 := by kernel_rfl
theorem laid_out : laidOutB Tryz.prog = true := by kernel_rfl
set_option maxRecDepth 100000 in
theorem ints_arg {H : Type} {enc : TypeId × Value → H} {W : World} {base : Nat} {v : Value} {d : DataW H} {ps : List MemPlace} (hv : Value.okWide Tryz.prog W .any base 39 v) (h : DataW.Trod enc Tryz.prog W 0 (fun _ => true) true 39 v d ps) : ∃ ch, Ints W v ch := by
  obtain ⟨a, len, cap, rfl⟩ := okWide_slice Tryz.underlying39 hv
  obtain ⟨fuel, hf⟩ := h
  rcases open_ints Tryz.underlying39 Tryz.underlying3 cells3 hf with ⟨e, -⟩ | ⟨a', len', cap', zs, e, -, hlc, hcm, hzl, -, hc, -⟩
  · have e := List.head_eq_of_cons_eq e
    simp only [Value.slice.injEq] at e
    obtain ⟨rfl, rfl, rfl⟩ := e
    exact ⟨[], none, 0, rfl, Nat.le_refl _, Nat.zero_le _, .inl rfl⟩
  · have e := List.head_eq_of_cons_eq e
    simp only [Value.slice.injEq] at e
    obtain ⟨rfl, rfl, rfl⟩ := e
    rw [if_pos rfl] at hzl
    refine ⟨zs.take len, some a', cap, by rw [List.length_take, Nat.min_eq_left (by omega)], by rw [List.length_take]; omega, hcm, ?_⟩
    by_cases h0 : len = 0
    · exact .inl (by rw [h0, List.take_zero])
    · right
      obtain ⟨g, o, sp⟩ := a'
      have hsp : sp = none := by
        have := hc 0 (by omega)
        unfold World.cell? at this
        rw [show (Addr.add ⟨g, o, sp⟩ 0) = ⟨g, o, sp⟩ from rfl] at this
        dsimp only at this
        cases hb : W.heap[g]? with
        | none => rw [hb] at this; cases this
        | some x =>
          rw [hb] at this
          cases sp with
          | none => rfl
          | some y => cases x <;> simp at this
      subst hsp
      have hlt : g < W.heap.size := cell_lt (o := o) (hc 0 (by omega))
      refine ⟨g, o, rfl, fun i t ht => ?_, hlt⟩
      rw [List.getElem?_take] at ht
      split at ht
      · have hz := (List.getElem?_eq_some_iff.1 ht).1
        have h1 := hc i hz
        rw [List.getD_eq_getElem?_getD, ht] at h1
        rw [add_none] at h1
        exact h1
      · cases ht
end Go.Proofs.YtjnafjgonoficaaGreatDoor
