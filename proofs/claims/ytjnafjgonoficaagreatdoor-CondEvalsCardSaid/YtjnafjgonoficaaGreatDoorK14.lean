/-
  What the evaluator's operands come to. Conditions: the evaluator's block is its own; what numbers and names come to is known.
  What 'defined' comes to. Conditions: the evaluator's block is its own; what names come to is known.
  The list of the operators, as it is laid in memory. Conditions: none.
  What a number of one digit comes to. Conditions: the library's tables are as their text lays them.
  What cond.Eval comes to, where the evaluator's binary is known. Conditions: the text is short; the library's variables are as their text lays them.
  The evaluator's binary at whatever fuel, from what its 'one' comes to. Conditions: what numbers and names come to is known.
  The signs ahead of an operand, plainly. No program in sight. Conditions: none.
-/
import Derived.LoopN
import Derived.Test.YtjnafjgonoficaaGreatDoorK13
namespace Go.Proofs.YtjnafjgonoficaaGreatDoor
open Go.RowKit Go.Proofs.YtjnafjgonoficaaGreatDoorW.PrintWords
set_option linter.unusedVariables false
set_option linter.unusedSimpArgs false
/-- What 'defined' comes to. -/
def DefC (val : ByteArray → Int × Bool) (P : Lx.Tok → Prop) (w0 : World) (dv : Value) (og : Nat) : Prop := ∀ (w : World) (S : Lx.ES), EVP P w0 w dv (ovOf og) S →
  Calls Tryz.prog 139 #[.pointer (some ⟨w0.heap.size, 0, none⟩)] w fun e w' => e = .returned (.int .i64 (Lx.definedE val S).1) ∧ EVP P w0 w' dv (ovOf og) (Lx.definedE val S).2 ∧ w.grownBy w' (some w0.heap.size)
theorem EVP.grown {P : Lx.Tok → Prop} {w0 w w' : World} {dv ov : Value} {S : Lx.ES} (h : EVP P w0 w dv ov S) (hg : w.grownBy w' none) : EVP P w0 w' dv ov S := ⟨h.1.grown hg, h.2⟩
set_option maxRecDepth 100000 in
theorem is_no (w0 w : World) (dv ov : Value) (S : Lx.ES) (gs : List UInt8) (gb : ByteArray) (hgb : gb.toList = gs) (h : EV w0 w dv ov S) (hno : Lx.isS S gs = false) :
    Calls Tryz.prog 86 #[.pointer (some ⟨w0.heap.size, 0, none⟩), .string gb] w fun e w' => e = .returned (.bool false) ∧ w = w' := by
  obtain ⟨l, bad⟩ := S
  obtain ⟨x, hx⟩ : ∃ x, w0.heap.size = x := ⟨_, rfl⟩
  cases l with
  | nil =>
    obtain ⟨A, c, h1⟩ := h.closed rfl
    rw [hx] at h1 ⊢
    have c0 : w.cell? ⟨x, 0, none⟩ = some (.slice A 0 c) := by rw [blk_cell h1]; rfl
    have hl := blk_lt h1
    clear h1 hx h hno
    go_enter Tryz.func86, Tryz.ntmps86
    go_wp2_with fail
    go_ret
    exact ⟨rfl, rfl⟩
  | cons t r =>
    obtain ⟨g, o, c, h1, hc1, hc2, hgl, a0, a1, a2, a3, -⟩ := h.opened rfl
    rw [hx] at h1 hgl ⊢
    have c0 : w.cell? ⟨x, 0, none⟩ = some (.slice (some ⟨g, o, none⟩) (r.length + 1) c) := by rw [blk_cell h1]; rfl
    have hl := blk_lt h1
    have hr2 : (((r.length : Int) + 1) == 0) = false := by rw [beq_eq_false_iff_ne]; omega
    have hdef : Lx.isS ⟨t :: r, bad⟩ gs = (decide (t.k = 6) && (t.t.toList == gs)) := rfl
    rw [hdef] at hno
    clear h1 hx h hdef
    cases hk : (t.k != 6)
    · rw [decide_eq_true (bne_eq_false_iff_eq.mp hk), Bool.true_and] at hno
      go_enter Tryz.func86, Tryz.ntmps86
      go_wp2_with fail
      go_ret
      exact ⟨rfl, rfl⟩
    · clear hno
      go_enter Tryz.func86, Tryz.ntmps86
      go_wp2_with fail
      go_ret
      exact ⟨rfl, rfl⟩
theorem grown_any {w w' : World} {row : Option Nat} (h : w.grownBy w' none) : w.grownBy w' row := ⟨h.os, h.tape, h.output, h.size, fun k hk _ => h.block k hk (by simp)⟩
set_option maxRecDepth 100000 in
set_option maxHeartbeats 8000000 in
theorem oper_step {num val : ByteArray → Int × Bool} {P : Lx.Tok → Prop} {w0 : World} {dv : Value} {og : Nat} (hC : EnvC num val P w0 dv og) (hD : DefC val P w0 dv og) (m : Nat) (IH : ∀ k, k < m → BinC num val P w0 dv og k) : OperC num val P w0 dv og m := by
  intro w S T v hf h
  cases m with
  | zero => unfold Lx.operF at hf; cases hf
  | succ m =>
  obtain ⟨x, hx⟩ : ∃ x, w0.heap.size = x := ⟨_, rfl⟩
  obtain ⟨l, bad⟩ := S
  have HEV := Aside0.mk h
  have HC := Aside0.mk hC
  have HX := Aside0.mk hx
  have HFA := Aside0.mk (show ∀ W S', EVP P w0 W dv (ovOf og) S' → Calls Tryz.prog 137 #[.pointer (some ⟨x, 0, none⟩)] W fun e w' => e = .returned (.int .i64 0) ∧ EVP P w0 w' dv (ovOf og) S'.fail ∧ W.grownBy w' (some x) from fun W S' h => by
    have := fail_callsP w0 W dv (ovOf og) S' h
    rw [hx] at this
    exact this)
  have HIS := Aside0.mk (show ∀ W S' (g : List UInt8) (gb : ByteArray), gb.toList = g → EVP P w0 W dv (ovOf og) S' → Calls Tryz.prog 86 #[.pointer (some ⟨x, 0, none⟩), .string gb] W fun e w' => e = .returned (.bool (Lx.isS S' g)) ∧ EVP P w0 w' dv (ovOf og) (if Lx.isS S' g = true then S'.tl else S') ∧ W.grownBy w' (some x) from fun W S' g gb hg h => by
    have := is_callsP w0 W dv (ovOf og) S' g gb hg h
    rw [hx] at this
    exact this)
  have HD := Aside0.mk (show ∀ W S', EVP P w0 W dv (ovOf og) S' → Calls Tryz.prog 139 #[.pointer (some ⟨x, 0, none⟩)] W fun e w' => e = .returned (.int .i64 (Lx.definedE val S').1) ∧ EVP P w0 w' dv (ovOf og) (Lx.definedE val S').2 ∧ W.grownBy w' (some x) from fun W S' h => by
    have := hD W S' h
    rw [hx] at this
    exact this)
  have HIH := Aside0.mk (show ∀ W S' T' v', Lx.binF num val m 1 S' = some (v', T') → EVP P w0 W dv (ovOf og) S' → Calls Tryz.prog 51 #[.pointer (some ⟨x, 0, none⟩), .int .i64 1] W fun e w' => e = .returned (.int .i64 v') ∧ EVP P w0 w' dv (ovOf og) T' ∧ W.grownBy w' (some x) from fun W S' T' v' hb h => by
    have := IH m (by omega) W 1 S' T' v' (by omega) (by omega) hb h
    rw [hx] at this
    exact this)
  obtain ⟨lv0, hx1, -, hB⟩ := h.1
  rw [hx] at hx1
  have hxl := blk_lt hx1
  have x3 : w.cell? ⟨x, 3, none⟩ = some (.bool bad) := by rw [blk_cell hx1]; rfl
  unfold Lx.operF at hf
  dsimp only at hf
  cases bad
  · rw [if_neg Bool.false_ne_true] at hf
    cases l with
    | nil =>
      dsimp only at hf
      cases hf
      obtain ⟨A, c, hx2⟩ := h.1.closed rfl
      rw [hx] at hx2
      have x0 : w.cell? ⟨x, 0, none⟩ = some (.slice A 0 c) := by rw [blk_cell hx2]; rfl
      rw [hx]
      clear hx1 hx2 h hC hD IH hB hx
      go_enter Tryz.func100, Tryz.ntmps100
      go_wp2_with (go_at_call 137; (refine (HFA.out _ ⟨[], false⟩ HEV.out).mono ?_); rintro e w9 ⟨rfl, hev, hg⟩; have HEV9 := Aside0.mk hev; have HG9 := Aside0.mk hg; clear hev hg)
      go_ret
      exact ⟨rfl, HEV9.out, HG9.out⟩
    | cons t r =>
      dsimp only at hf
      obtain ⟨g, o, c, hx2, hc1, hc2, hgl, a0, a1, a2, a3, htk⟩ := h.1.opened rfl
      have hPt : P t := h.2.1 t List.mem_cons_self
      rw [hx] at hx2 hgl
      have x0 : w.cell? ⟨x, 0, none⟩ = some (.slice (some ⟨g, o, none⟩) (r.length + 1) c) := by rw [blk_cell hx2]; rfl
      have hr2 : (((r.length : Int) + 1) == 0) = false := by rw [beq_eq_false_iff_ne]; omega
      rw [hx]
      obtain ⟨op, hop⟩ : ∃ op, Lx.isS ⟨t :: r, false⟩ [40] = op := ⟨_, rfl⟩
      rw [hop] at hf
      have HOPN := Aside0.mk hop
      have hi1 := HIS.out w ⟨t :: r, false⟩ [40] ⟨#[40]⟩ (by rw [ByteArray.toList_eq]) h
      rw [hop] at hi1
      have HI1 := Aside0.mk hi1
      clear hi1
      have HTK := Aside0.mk htk
      have HPT := Aside0.mk hPt
      have HPR := Aside0.mk (show AllP P r from AllP.rest h.2)
      have HB0 := Aside0.mk hx2
      clear hx1 hx2 h hC hD IH hB hx hop htk hPt
      cases op
      · rw [if_neg Bool.false_ne_true] at hf
        have hno := is_no w0 w dv (ovOf og) ⟨t :: r, false⟩ [40] ⟨#[40]⟩ (by rw [ByteArray.toList_eq]) HEV.out.1 HOPN.out
        rw [HX.out] at hno
        have HNO := Aside0.mk hno
        have z0 := blk_frozen HB0.out 0
        have hxne : x ≠ w.heap.size := by omega
        have hcases : ∃ lv', (c = 1 ∧ r.length = 0 ∧ lv' = Value.slice (some ⟨g, o, none⟩) 0 0 ∨ ¬ c = 1 ∧ lv' = Value.slice (some ⟨g, o + 4, none⟩) r.length (c - 1)) ∧ Tks w0 lv' r := by
          by_cases hc : c = 1
          · have hr0 : r.length = 0 := by omega
            refine ⟨_, .inl ⟨hc, hr0, rfl⟩, ?_⟩
            obtain rfl : r = [] := List.eq_nil_of_length_eq_zero hr0
            exact Tks.none
          · exact ⟨_, .inr ⟨hc, rfl⟩, HTK.out.tail⟩
        obtain ⟨lv', hlv, htk'⟩ := hcases
        have hb1 := HB0.out
        rw [← HX.out] at hb1
        have htaken := EV.taken (r := r) (l := []) hb1 HEV.out.1.behind htk'
        rw [HX.out] at htaken
        have HW2 := Aside0.mk (EVP.grown (P := P) (S := ⟨r, false⟩) ⟨htaken.1, HPR.out⟩ (World.grownBy_alloc (w.setCell ⟨x, 0, none⟩ lv') (.cells #[.int .i64 t.k, .string t.b, .string t.t, .int .i64 t.a] 29) none))
        have HGW2 := Aside0.mk (grown_trans htaken.2 (World.grownBy_alloc (w.setCell ⟨x, 0, none⟩ lv') (.cells #[.int .i64 t.k, .string t.b, .string t.t, .int .i64 t.a] 29) (some x)))
        clear hno hb1 htaken htk' HI1
        rcases hlv with ⟨hc, hr0, rfl⟩ | ⟨hc, rfl⟩
        · subst hc
          cases h3 : (t.k == 3)
          · rw [if_neg (beq_eq_false_iff_ne.mp h3)] at hf
            cases hdf : (t.t.toList == [100, 101, 102, 105, 110, 101, 100])
            · rw [hdf, if_neg Bool.false_ne_true] at hf
              cases h1 : (t.k == 1)
              · rw [if_neg (beq_eq_false_iff_ne.mp h1)] at hf
                cases hf
                go_enter Tryz.func100, Tryz.ntmps100
                go_wp2_with (first | (go_at_call 86; (with_reducible refine HNO.out.mono ?_); rintro e w1 ⟨rfl, rfl⟩) | (go_at_call 89; (refine (isName_calls t _).mono ?_); rintro e w5 ⟨rfl, hg⟩; have HW5 := Aside0.mk (HW2.out.grown hg); have HG5 := Aside0.mk (grown_trans HGW2.out (grown_any hg)); clear hg) | (go_at_call 137; (refine (HFA.out _ ⟨r, false⟩ HW5.out).mono ?_); rintro e w9 ⟨rfl, hev, hg⟩; have HEV9 := Aside0.mk hev; have HG9 := Aside0.mk hg; clear hev hg))
                go_ret
                exact ⟨rfl, HEV9.out, grown_trans HG5.out HG9.out⟩
              · rw [if_pos (beq_iff_eq.mp h1)] at hf
                have hvl := fun W hW => HC.out.val t HPT.out (beq_iff_eq.mp h1) W hW
                obtain ⟨vv, hvv⟩ : ∃ vv, val t.t = vv := ⟨_, rfl⟩
                rw [hvv] at hf hvl
                cases hf
                have HVL := Aside0.mk hvl
                clear hvl hvv
                go_enter Tryz.func100, Tryz.ntmps100
                go_wp2_with (first | (go_at_call 86; (with_reducible refine HNO.out.mono ?_); rintro e w1 ⟨rfl, rfl⟩) | (go_at_call 89; (refine (isName_calls t _).mono ?_); rintro e w5 ⟨rfl, hg⟩; have hw5 := HW2.out.grown hg; have hev1 := hw5.1; obtain ⟨lv5, hxb5, -, -⟩ := hev1; rw [HX.out] at hxb5; have y1 : w5.cell? ⟨x, 1, none⟩ = some dv := (by rw [blk_cell hxb5]; rfl); have n2 : w5.cell? ⟨w.heap.size, 2, none⟩ = some (.string t.t) := hg.cell (by rw [blk_cell (blk_new_at _ _ w.heap.size (by simp [World.setCell]))]; rfl) (by simp); have HW5 := Aside0.mk hw5; have HG5 := Aside0.mk (grown_trans HGW2.out (grown_any hg)); clear hg hw5 hxb5))
                go_region_held3 (fun (W : World) => W.cell? ⟨x, 1, none⟩ = some dv ∧ W.cell? ⟨w.heap.size, 2, none⟩ = some (.string t.t)) (first | exact ⟨y1, n2⟩ | exact ⟨y6, n6⟩) (first | (go_at_call 91; (refine (HVL.out _ (EV.grown HW5.out.1 (by repeat (first | exact World.grownBy.refl _ _ | apply grown_drew | apply grown_drewN))).behind).mono ?_); rintro e w6 ⟨rfl, hg⟩; have hg6 : w5.grownBy w6 none := ⟨hg.os, hg.tape, hg.output, hg.size, hg.block⟩; have y6 := hg6.cell y1 (by simp); have n6 := hg6.cell n2 (by simp); have HW6 := Aside0.mk (HW5.out.grown hg6); have HG6 := Aside0.mk (grown_trans HG5.out (grown_any hg6)); clear hg hg6))
                all_goals go_wp2_with fail
                all_goals go_ret
                all_goals exact ⟨rfl, HW6.out, HG6.out⟩
            · rw [hdf, if_pos rfl] at hf
              have e1 := Option.some.inj hf
              obtain ⟨dv1, hdv⟩ : ∃ dv1, Lx.definedE val ⟨r, false⟩ = dv1 := ⟨_, rfl⟩
              have e2 : dv1 = (v, T) := by rw [← hdv]; exact e1
              subst e2
              have hd1 := HD.out _ ⟨r, false⟩ HW2.out
              rw [hdv] at hd1
              have HD1 := Aside0.mk hd1
              clear hf e1 hdv hd1 HD
              go_enter Tryz.func100, Tryz.ntmps100
              go_wp2_with (first | (go_at_call 86; (with_reducible refine HNO.out.mono ?_); rintro e w1 ⟨rfl, rfl⟩) | (go_at_call 139; (refine HD1.out.mono ?_); rintro e w5 ⟨rfl, hev, hg⟩; have HEV9 := Aside0.mk hev; have HG9 := Aside0.mk hg; clear hev hg))
              go_ret
              exact ⟨rfl, HEV9.out, grown_trans HGW2.out HG9.out⟩
          · rw [if_pos (beq_iff_eq.mp h3)] at hf
            have hnm := HC.out.num t HPT.out (beq_iff_eq.mp h3) _ HW2.out.1.behind
            cases hok : (num t.t).2
            · rw [hok, if_neg Bool.false_ne_true] at hf
              cases hf
              rw [hok] at hnm
              obtain ⟨nv, hnv⟩ : ∃ nv, (num t.t).1 = nv := ⟨_, rfl⟩
              rw [hnv] at hnm
              have HNM := Aside0.mk hnm
              clear hnm hok hnv
              go_enter Tryz.func100, Tryz.ntmps100
              go_wp2_with (first | (go_at_call 86; (with_reducible refine HNO.out.mono ?_); rintro e w1 ⟨rfl, rfl⟩) | (go_at_call 138; (refine HNM.out.mono ?_); rintro e w5 ⟨rfl, hg⟩; have HW5 := Aside0.mk (HW2.out.grown hg); have HG5 := Aside0.mk (grown_trans HGW2.out (grown_any hg)); clear hg) | (go_at_call 137; (refine (HFA.out _ ⟨r, false⟩ HW5.out).mono ?_); rintro e w9 ⟨rfl, hev, hg⟩; have HEV9 := Aside0.mk hev; have HG9 := Aside0.mk hg; clear hev hg))
              go_ret
              exact ⟨rfl, HEV9.out, grown_trans HG5.out HG9.out⟩
            · rw [hok, if_pos rfl] at hf
              rw [hok] at hnm
              obtain ⟨nv, hnv⟩ : ∃ nv, (num t.t).1 = nv := ⟨_, rfl⟩
              rw [hnv] at hnm hf
              cases hf
              have HNM := Aside0.mk hnm
              clear hnm hok hnv
              go_enter Tryz.func100, Tryz.ntmps100
              go_wp2_with (first | (go_at_call 86; (with_reducible refine HNO.out.mono ?_); rintro e w1 ⟨rfl, rfl⟩) | (go_at_call 138; (refine HNM.out.mono ?_); rintro e w5 ⟨rfl, hg⟩; have HW5 := Aside0.mk (HW2.out.grown hg); have HG5 := Aside0.mk (grown_trans HGW2.out (grown_any hg)); clear hg))
              go_ret
              exact ⟨rfl, HW5.out, HG5.out⟩
        · cases h3 : (t.k == 3)
          · rw [if_neg (beq_eq_false_iff_ne.mp h3)] at hf
            cases hdf : (t.t.toList == [100, 101, 102, 105, 110, 101, 100])
            · rw [hdf, if_neg Bool.false_ne_true] at hf
              cases h1 : (t.k == 1)
              · rw [if_neg (beq_eq_false_iff_ne.mp h1)] at hf
                cases hf
                go_enter Tryz.func100, Tryz.ntmps100
                go_wp2_with (first | (go_at_call 86; (with_reducible refine HNO.out.mono ?_); rintro e w1 ⟨rfl, rfl⟩) | (go_at_call 89; (refine (isName_calls t _).mono ?_); rintro e w5 ⟨rfl, hg⟩; have HW5 := Aside0.mk (HW2.out.grown hg); have HG5 := Aside0.mk (grown_trans HGW2.out (grown_any hg)); clear hg) | (go_at_call 137; (refine (HFA.out _ ⟨r, false⟩ HW5.out).mono ?_); rintro e w9 ⟨rfl, hev, hg⟩; have HEV9 := Aside0.mk hev; have HG9 := Aside0.mk hg; clear hev hg))
                go_ret
                exact ⟨rfl, HEV9.out, grown_trans HG5.out HG9.out⟩
              · rw [if_pos (beq_iff_eq.mp h1)] at hf
                have hvl := fun W hW => HC.out.val t HPT.out (beq_iff_eq.mp h1) W hW
                obtain ⟨vv, hvv⟩ : ∃ vv, val t.t = vv := ⟨_, rfl⟩
                rw [hvv] at hf hvl
                cases hf
                have HVL := Aside0.mk hvl
                clear hvl hvv
                go_enter Tryz.func100, Tryz.ntmps100
                go_wp2_with (first | (go_at_call 86; (with_reducible refine HNO.out.mono ?_); rintro e w1 ⟨rfl, rfl⟩) | (go_at_call 89; (refine (isName_calls t _).mono ?_); rintro e w5 ⟨rfl, hg⟩; have hw5 := HW2.out.grown hg; have hev1 := hw5.1; obtain ⟨lv5, hxb5, -, -⟩ := hev1; rw [HX.out] at hxb5; have y1 : w5.cell? ⟨x, 1, none⟩ = some dv := (by rw [blk_cell hxb5]; rfl); have n2 : w5.cell? ⟨w.heap.size, 2, none⟩ = some (.string t.t) := hg.cell (by rw [blk_cell (blk_new_at _ _ w.heap.size (by simp [World.setCell]))]; rfl) (by simp); have HW5 := Aside0.mk hw5; have HG5 := Aside0.mk (grown_trans HGW2.out (grown_any hg)); clear hg hw5 hxb5))
                go_region_held3 (fun (W : World) => W.cell? ⟨x, 1, none⟩ = some dv ∧ W.cell? ⟨w.heap.size, 2, none⟩ = some (.string t.t)) (first | exact ⟨y1, n2⟩ | exact ⟨y6, n6⟩) (first | (go_at_call 91; (refine (HVL.out _ (EV.grown HW5.out.1 (by repeat (first | exact World.grownBy.refl _ _ | apply grown_drew | apply grown_drewN))).behind).mono ?_); rintro e w6 ⟨rfl, hg⟩; have hg6 : w5.grownBy w6 none := ⟨hg.os, hg.tape, hg.output, hg.size, hg.block⟩; have y6 := hg6.cell y1 (by simp); have n6 := hg6.cell n2 (by simp); have HW6 := Aside0.mk (HW5.out.grown hg6); have HG6 := Aside0.mk (grown_trans HG5.out (grown_any hg6)); clear hg hg6))
                all_goals go_wp2_with fail
                all_goals go_ret
                all_goals exact ⟨rfl, HW6.out, HG6.out⟩
            · rw [hdf, if_pos rfl] at hf
              have e1 := Option.some.inj hf
              obtain ⟨dv1, hdv⟩ : ∃ dv1, Lx.definedE val ⟨r, false⟩ = dv1 := ⟨_, rfl⟩
              have e2 : dv1 = (v, T) := by rw [← hdv]; exact e1
              subst e2
              have hd1 := HD.out _ ⟨r, false⟩ HW2.out
              rw [hdv] at hd1
              have HD1 := Aside0.mk hd1
              clear hf e1 hdv hd1 HD
              go_enter Tryz.func100, Tryz.ntmps100
              go_wp2_with (first | (go_at_call 86; (with_reducible refine HNO.out.mono ?_); rintro e w1 ⟨rfl, rfl⟩) | (go_at_call 139; (refine HD1.out.mono ?_); rintro e w5 ⟨rfl, hev, hg⟩; have HEV9 := Aside0.mk hev; have HG9 := Aside0.mk hg; clear hev hg))
              go_ret
              exact ⟨rfl, HEV9.out, grown_trans HGW2.out HG9.out⟩
          · rw [if_pos (beq_iff_eq.mp h3)] at hf
            have hnm := HC.out.num t HPT.out (beq_iff_eq.mp h3) _ HW2.out.1.behind
            cases hok : (num t.t).2
            · rw [hok, if_neg Bool.false_ne_true] at hf
              cases hf
              rw [hok] at hnm
              obtain ⟨nv, hnv⟩ : ∃ nv, (num t.t).1 = nv := ⟨_, rfl⟩
              rw [hnv] at hnm
              have HNM := Aside0.mk hnm
              clear hnm hok hnv
              go_enter Tryz.func100, Tryz.ntmps100
              go_wp2_with (first | (go_at_call 86; (with_reducible refine HNO.out.mono ?_); rintro e w1 ⟨rfl, rfl⟩) | (go_at_call 138; (refine HNM.out.mono ?_); rintro e w5 ⟨rfl, hg⟩; have HW5 := Aside0.mk (HW2.out.grown hg); have HG5 := Aside0.mk (grown_trans HGW2.out (grown_any hg)); clear hg) | (go_at_call 137; (refine (HFA.out _ ⟨r, false⟩ HW5.out).mono ?_); rintro e w9 ⟨rfl, hev, hg⟩; have HEV9 := Aside0.mk hev; have HG9 := Aside0.mk hg; clear hev hg))
              go_ret
              exact ⟨rfl, HEV9.out, grown_trans HG5.out HG9.out⟩
            · rw [hok, if_pos rfl] at hf
              rw [hok] at hnm
              obtain ⟨nv, hnv⟩ : ∃ nv, (num t.t).1 = nv := ⟨_, rfl⟩
              rw [hnv] at hnm hf
              cases hf
              have HNM := Aside0.mk hnm
              clear hnm hok hnv
              go_enter Tryz.func100, Tryz.ntmps100
              go_wp2_with (first | (go_at_call 86; (with_reducible refine HNO.out.mono ?_); rintro e w1 ⟨rfl, rfl⟩) | (go_at_call 138; (refine HNM.out.mono ?_); rintro e w5 ⟨rfl, hg⟩; have HW5 := Aside0.mk (HW2.out.grown hg); have HG5 := Aside0.mk (grown_trans HGW2.out (grown_any hg)); clear hg))
              go_ret
              exact ⟨rfl, HW5.out, HG5.out⟩
      · rw [if_pos rfl] at hf
        cases hb : Lx.binF num val m 1 (Lx.ES.tl ⟨t :: r, false⟩) with
        | none => rw [hb] at hf; cases hf
        | some q =>
        obtain ⟨v1, T1⟩ := q
        rw [hb] at hf
        dsimp only at hf
        have HBN := Aside0.mk hb
        clear hb
        obtain ⟨cl, hcl⟩ : ∃ cl, Lx.isS T1 [41] = cl := ⟨_, rfl⟩
        rw [hcl] at hf
        have HCL := Aside0.mk hcl
        clear hcl
        have HI3 := Aside0.mk (show ∀ W, EVP P w0 W dv (ovOf og) T1 → Calls Tryz.prog 86 #[.pointer (some ⟨x, 0, none⟩), .string ⟨#[41]⟩] W fun e w' => e = .returned (.bool cl) ∧ EVP P w0 w' dv (ovOf og) (if cl = true then T1.tl else T1) ∧ W.grownBy w' (some x) from fun W hW => by
          have := HIS.out W T1 [41] ⟨#[41]⟩ (by rw [ByteArray.toList_eq]) hW
          rw [HCL.out] at this
          exact this)
        clear HIS
        cases cl
        · rw [if_neg Bool.false_ne_true] at hf
          cases hf
          go_enter Tryz.func100, Tryz.ntmps100
          go_wp2_with (first | (go_at_call 51; (refine (HIH.out _ _ _ _ HBN.out HEV1.out).mono ?_); rintro e w2 ⟨rfl, hev, hg⟩; have HEV2 := Aside0.mk hev; have HG2 := Aside0.mk hg; clear hev hg) | (go_at_call 86; (with_reducible refine HI1.out.mono ?_); rintro e w1 ⟨rfl, hev, hg⟩; have HEV1 := Aside0.mk hev; have HG1 := Aside0.mk hg; clear hev hg) | (go_at_call 86; (with_reducible refine (HI3.out _ HEV2.out).mono ?_); rintro e w3 ⟨rfl, hev, hg⟩; have HEV3 := Aside0.mk hev; have HG3 := Aside0.mk hg; clear hev hg) | (go_at_call 137; (refine (HFA.out _ T1 HEV3.out).mono ?_); rintro e w9 ⟨rfl, hev, hg⟩; have HEV9 := Aside0.mk hev; have HG9 := Aside0.mk hg; clear hev hg))
          go_ret
          exact ⟨rfl, HEV9.out, grown_trans HG1.out (grown_trans HG2.out (grown_trans HG3.out HG9.out))⟩
        · rw [if_pos rfl] at hf
          cases hf
          go_enter Tryz.func100, Tryz.ntmps100
          go_wp2_with (first | (go_at_call 51; (refine (HIH.out _ _ _ _ HBN.out HEV1.out).mono ?_); rintro e w2 ⟨rfl, hev, hg⟩; have HEV2 := Aside0.mk hev; have HG2 := Aside0.mk hg; clear hev hg) | (go_at_call 86; (with_reducible refine HI1.out.mono ?_); rintro e w1 ⟨rfl, hev, hg⟩; have HEV1 := Aside0.mk hev; have HG1 := Aside0.mk hg; clear hev hg) | (go_at_call 86; (with_reducible refine (HI3.out _ HEV2.out).mono ?_); rintro e w3 ⟨rfl, hev, hg⟩; have HEV3 := Aside0.mk hev; have HG3 := Aside0.mk hg; clear hev hg))
          go_ret
          exact ⟨rfl, HEV3.out, grown_trans HG1.out (grown_trans HG2.out HG3.out)⟩
  · rw [if_pos rfl] at hf
    cases hf
    rw [hx]
    clear hx1 h hC hD IH hB hx
    go_enter Tryz.func100, Tryz.ntmps100
    go_wp2_with (go_at_call 137; (refine (HFA.out _ ⟨l, true⟩ HEV.out).mono ?_); rintro e w9 ⟨rfl, hev, hg⟩; have HEV9 := Aside0.mk hev; have HG9 := Aside0.mk hg; clear hev hg)
    go_ret
    exact ⟨rfl, HEV9.out, HG9.out⟩
end Go.Proofs.YtjnafjgonoficaaGreatDoor
namespace Go.Proofs.YtjnafjgonoficaaGreatDoor
open Go.RowKit Go.Proofs.YtjnafjgonoficaaGreatDoorW.PrintWords
set_option linter.unusedVariables false
set_option linter.unusedSimpArgs false
set_option maxRecDepth 100000 in
set_option maxHeartbeats 8000000 in
theorem defined_holds {num val : ByteArray → Int × Bool} {P : Lx.Tok → Prop} {w0 : World} {dv : Value} {og : Nat} (hC : EnvC num val P w0 dv og) : DefC val P w0 dv og := by
  intro w S h
  obtain ⟨x, hx⟩ : ∃ x, w0.heap.size = x := ⟨_, rfl⟩
  have HX := Aside0.mk hx
  have HC := Aside0.mk hC
  have HFA := Aside0.mk (show ∀ W S', EVP P w0 W dv (ovOf og) S' → Calls Tryz.prog 137 #[.pointer (some ⟨x, 0, none⟩)] W fun e w' => e = .returned (.int .i64 0) ∧ EVP P w0 w' dv (ovOf og) S'.fail ∧ W.grownBy w' (some x) from fun W S' h => by
    have := fail_callsP w0 W dv (ovOf og) S' h
    rw [hx] at this
    exact this)
  have hi1 := is_callsP w0 w dv (ovOf og) S [40] ⟨#[40]⟩ (by rw [ByteArray.toList_eq]) h
  obtain ⟨op, hop⟩ : ∃ op, Lx.isS S [40] = op := ⟨_, rfl⟩
  obtain ⟨S1, hS1⟩ : ∃ S1, (if op = true then S.tl else S) = S1 := ⟨_, rfl⟩
  obtain ⟨D, hD⟩ : ∃ D, Lx.definedE val S = D := ⟨_, rfl⟩
  have hPall : ∀ y ∈ S1.l, P y := by
    rw [← hS1]
    split
    · exact fun y hy => h.2.1 y (List.mem_of_mem_tail hy)
    · exact h.2.1
  rw [hop, hS1] at hi1
  rw [hD]
  unfold Lx.definedE at hD
  rw [hop, hS1] at hD
  rw [hx] at hi1 ⊢
  have HI1 := Aside0.mk hi1
  obtain ⟨l1, bad1⟩ := S1
  clear h hi1 hS1 hC hx hop
  cases l1 with
  | nil =>
    dsimp only at hD
    subst hD
    go_enter Tryz.func139, Tryz.ntmps139
    go_wp2_with (first | (go_at_call 86; (with_reducible refine HI1.out.mono ?_); rintro e w1 ⟨rfl, hev, hg⟩; obtain ⟨A, c, hxb⟩ := hev.1.closed rfl; rw [HX.out] at hxb; have x0 : w1.cell? ⟨x, 0, none⟩ = some (.slice A 0 c) := (by rw [blk_cell hxb]; rfl); have hxl := blk_lt hxb; have HEV1 := Aside0.mk hev; have HG1 := Aside0.mk hg; clear hev hg hxb) | (go_at_call 137; (refine (HFA.out _ ⟨[], bad1⟩ HEV1.out).mono ?_); rintro e w9 ⟨rfl, hev, hg⟩; have HEV9 := Aside0.mk hev; have HG9 := Aside0.mk hg; clear hev hg))
    go_ret
    exact ⟨rfl, HEV9.out, grown_trans HG1.out HG9.out⟩
  | cons t r =>
    dsimp only at hD
    have hP1 : P t := hPall t List.mem_cons_self
    clear hPall
    have hr2 : (((r.length : Int) + 1) == 0) = false := by rw [beq_eq_false_iff_ne]; omega
    cases h1 : (t.k == 1)
    · rw [if_neg (beq_eq_false_iff_ne.mp h1)] at hD
      subst hD
      go_enter Tryz.func139, Tryz.ntmps139
      go_wp2_with (first | (go_at_call 86; (with_reducible refine HI1.out.mono ?_); rintro e w1 ⟨rfl, hev, hg⟩; obtain ⟨g, o, c, hxb, hc1, hc2, hgl, a0, a1, a2, a3, -⟩ := hev.1.opened rfl; rw [HX.out] at hxb hgl; have x0 : w1.cell? ⟨x, 0, none⟩ = some (.slice (some ⟨g, o, none⟩) (r.length + 1) c) := (by rw [blk_cell hxb]; rfl); have hxl := blk_lt hxb; have HEV1 := Aside0.mk hev; have HG1 := Aside0.mk hg; clear hev hg hxb) | (go_at_call 89; (refine (isName_calls t _).mono ?_); rintro e w5 ⟨rfl, hg⟩; have HW5 := Aside0.mk (HEV1.out.grown hg); have HG5 := Aside0.mk (grown_trans HG1.out (grown_any hg)); clear hg) | (go_at_call 137; (refine (HFA.out _ ⟨t :: r, bad1⟩ HW5.out).mono ?_); rintro e w9 ⟨rfl, hev, hg⟩; have HEV9 := Aside0.mk hev; have HG9 := Aside0.mk hg; clear hev hg))
      go_ret
      exact ⟨rfl, HEV9.out, grown_trans HG5.out HG9.out⟩
    · rw [if_pos (beq_iff_eq.mp h1)] at hD
      have hPt : P t ∨ True := .inr trivial
      have hvl := fun (hP : P t) W hW => HC.out.val t hP (beq_iff_eq.mp h1) W hW
      obtain ⟨vv, hvv⟩ : ∃ vv, val t.t = vv := ⟨_, rfl⟩
      rw [hvv] at hD hvl
      have HVL := Aside0.mk (hvl hP1)
      obtain ⟨cl, hcl⟩ : ∃ cl, Lx.isS ⟨r, bad1⟩ [41] = cl := ⟨_, rfl⟩
      have HI3 := Aside0.mk (show ∀ W, EVP P w0 W dv (ovOf og) ⟨r, bad1⟩ → Calls Tryz.prog 86 #[.pointer (some ⟨x, 0, none⟩), .string ⟨#[41]⟩] W fun e w' => e = .returned (.bool cl) ∧ EVP P w0 w' dv (ovOf og) (if cl = true then ⟨r.tail, bad1⟩ else ⟨r, bad1⟩) ∧ W.grownBy w' (some x) from fun W hW => by
        have := is_callsP w0 W dv (ovOf og) ⟨r, bad1⟩ [41] ⟨#[41]⟩ (by rw [ByteArray.toList_eq]) hW
        rw [hcl, HX.out] at this
        exact this)
      rw [hcl] at hD
      clear hvl hvv hcl hPt
      cases op
      · rw [Bool.false_and, if_neg Bool.false_ne_true, if_neg Bool.false_ne_true] at hD
        subst hD
        go_enter Tryz.func139, Tryz.ntmps139
        go_wp2_with (first | (go_at_call 86; (with_reducible refine HI1.out.mono ?_); rintro e w1 ⟨rfl, hev, hg⟩; obtain ⟨g, o, c, hxb, hc1, hc2, hgl, a0, a1, a2, a3, htk⟩ := hev.1.opened rfl; have HTK := Aside0.mk htk; rw [HX.out] at hxb hgl; have x0 : w1.cell? ⟨x, 0, none⟩ = some (.slice (some ⟨g, o, none⟩) (r.length + 1) c) := (by rw [blk_cell hxb]; rfl); have x1 : w1.cell? ⟨x, 1, none⟩ = some dv := (by rw [blk_cell hxb]; rfl); have hxl := blk_lt hxb; have HXB := Aside0.mk hxb; have HEV1 := Aside0.mk hev; have HG1 := Aside0.mk hg; clear hev hg hxb htk) | (go_at_call 89; (refine (isName_calls t _).mono ?_); rintro e w5 ⟨rfl, hg⟩; have y0 := hg.cell x0 (by simp); have y1 := hg.cell x1 (by simp); have b2 := hg.cell a2 (by simp); have HXB5 := Aside0.mk ((hg.block x hxl (by simp)).trans HXB.out); have HW5 := Aside0.mk (HEV1.out.grown hg); have HG5 := Aside0.mk (grown_trans HG1.out (grown_any hg)); clear hg))
        have hj0 : (0 : Int) ≤ (r.length : Int) := by omega
        have hj1 : (0 : Int) < (r.length : Int) + 1 := by omega
        go_region_held3 (fun (W : World) => W.cell? ⟨x, 1, none⟩ = some dv ∧ W.cell? ⟨x, 0, none⟩ = some (.slice (some ⟨g, o, none⟩) (r.length + 1) c) ∧ W.cell? ⟨g, o + 2, none⟩ = some (.string t.t)) (first | exact ⟨y1, y0, b2⟩ | exact ⟨y16, y06, b26⟩) (first | (go_at_call 91; (refine (HVL.out _ (EV.grown HW5.out.1 (by repeat (first | exact World.grownBy.refl _ _ | apply grown_drew | apply grown_drewN))).behind).mono ?_); rintro e w6 ⟨rfl, hg⟩; have hg6 : w5.grownBy w6 none := ⟨hg.os, hg.tape, hg.output, hg.size, hg.block⟩; have y16 := hg6.cell y1 (by simp); have y06 := hg6.cell y0 (by simp); have b26 := hg6.cell b2 (by simp); have hxb6 := (hg6.block x (blk_lt HXB5.out) (by simp)).trans HXB5.out; have z06 := blk_frozen hxb6 0; have HXB6 := Aside0.mk hxb6; have HW6 := Aside0.mk (HW5.out.grown hg6); have HG6 := Aside0.mk (grown_trans HG5.out (grown_any hg6)); clear hg hg6 hxb6))
        all_goals
          have hxb6 := HXB6.out
          rw [← HX.out] at hxb6
          have htk2 : ∃ lv', (c = 1 ∧ r.length = 0 ∧ lv' = Value.slice (some ⟨g, o, none⟩) 0 0 ∨ ¬ c = 1 ∧ lv' = Value.slice (some ⟨g, o + 4, none⟩) r.length (c - 1)) ∧ Tks w0 lv' r := by
            by_cases hc : c = 1
            · have hr0 : r.length = 0 := by omega
              refine ⟨_, .inl ⟨hc, hr0, rfl⟩, ?_⟩
              obtain rfl : r = [] := List.eq_nil_of_length_eq_zero hr0
              exact Tks.none
            · exact ⟨_, .inr ⟨hc, rfl⟩, HTK.out.tail⟩
          obtain ⟨lv', hlv, htk'⟩ := htk2
          have htaken := EV.taken (r := r) (l := []) hxb6 HW6.out.1.behind htk'
          rw [HX.out] at htaken
          have HW2 := Aside0.mk (show EVP P w0 (w6.setCell ⟨x, 0, none⟩ lv') dv (ovOf og) ⟨r, bad1⟩ from ⟨htaken.1, AllP.rest HEV1.out.2⟩)
          have HGW2 := Aside0.mk (grown_trans HG6.out htaken.2)
          clear hxb6 htaken htk'
          rcases hlv with ⟨hc, hr0, rfl⟩ | ⟨hc, rfl⟩
          · subst hc
            go_wp2_with (first | (go_at_call 69; (with_reducible refine (bit_calls _ _).mono ?_); rintro e w8 ⟨rfl, rfl⟩))
            go_ret
            exact ⟨rfl, HW2.out, HGW2.out⟩
          · go_wp2_with (first | (go_at_call 69; (with_reducible refine (bit_calls _ _).mono ?_); rintro e w8 ⟨rfl, rfl⟩))
            go_ret
            exact ⟨rfl, HW2.out, HGW2.out⟩
      · cases cl
        · rw [Bool.not_false, Bool.true_and, if_pos rfl] at hD
          subst hD
          go_enter Tryz.func139, Tryz.ntmps139
          go_wp2_with (first | (go_at_call 86; (with_reducible refine HI1.out.mono ?_); rintro e w1 ⟨rfl, hev, hg⟩; obtain ⟨g, o, c, hxb, hc1, hc2, hgl, a0, a1, a2, a3, htk⟩ := hev.1.opened rfl; have HTK := Aside0.mk htk; rw [HX.out] at hxb hgl; have x0 : w1.cell? ⟨x, 0, none⟩ = some (.slice (some ⟨g, o, none⟩) (r.length + 1) c) := (by rw [blk_cell hxb]; rfl); have x1 : w1.cell? ⟨x, 1, none⟩ = some dv := (by rw [blk_cell hxb]; rfl); have hxl := blk_lt hxb; have HXB := Aside0.mk hxb; have HEV1 := Aside0.mk hev; have HG1 := Aside0.mk hg; clear hev hg hxb htk) | (go_at_call 89; (refine (isName_calls t _).mono ?_); rintro e w5 ⟨rfl, hg⟩; have y0 := hg.cell x0 (by simp); have y1 := hg.cell x1 (by simp); have b2 := hg.cell a2 (by simp); have HXB5 := Aside0.mk ((hg.block x hxl (by simp)).trans HXB.out); have HW5 := Aside0.mk (HEV1.out.grown hg); have HG5 := Aside0.mk (grown_trans HG1.out (grown_any hg)); clear hg))
          have hj0 : (0 : Int) ≤ (r.length : Int) := by omega
          have hj1 : (0 : Int) < (r.length : Int) + 1 := by omega
          go_region_held3 (fun (W : World) => W.cell? ⟨x, 1, none⟩ = some dv ∧ W.cell? ⟨x, 0, none⟩ = some (.slice (some ⟨g, o, none⟩) (r.length + 1) c) ∧ W.cell? ⟨g, o + 2, none⟩ = some (.string t.t)) (first | exact ⟨y1, y0, b2⟩ | exact ⟨y16, y06, b26⟩) (first | (go_at_call 91; (refine (HVL.out _ (EV.grown HW5.out.1 (by repeat (first | exact World.grownBy.refl _ _ | apply grown_drew | apply grown_drewN))).behind).mono ?_); rintro e w6 ⟨rfl, hg⟩; have hg6 : w5.grownBy w6 none := ⟨hg.os, hg.tape, hg.output, hg.size, hg.block⟩; have y16 := hg6.cell y1 (by simp); have y06 := hg6.cell y0 (by simp); have b26 := hg6.cell b2 (by simp); have hxb6 := (hg6.block x (blk_lt HXB5.out) (by simp)).trans HXB5.out; have z06 := blk_frozen hxb6 0; have HXB6 := Aside0.mk hxb6; have HW6 := Aside0.mk (HW5.out.grown hg6); have HG6 := Aside0.mk (grown_trans HG5.out (grown_any hg6)); clear hg hg6 hxb6))
          all_goals
            have hxb6 := HXB6.out
            rw [← HX.out] at hxb6
            have htk2 : ∃ lv', (c = 1 ∧ r.length = 0 ∧ lv' = Value.slice (some ⟨g, o, none⟩) 0 0 ∨ ¬ c = 1 ∧ lv' = Value.slice (some ⟨g, o + 4, none⟩) r.length (c - 1)) ∧ Tks w0 lv' r := by
              by_cases hc : c = 1
              · have hr0 : r.length = 0 := by omega
                refine ⟨_, .inl ⟨hc, hr0, rfl⟩, ?_⟩
                obtain rfl : r = [] := List.eq_nil_of_length_eq_zero hr0
                exact Tks.none
              · exact ⟨_, .inr ⟨hc, rfl⟩, HTK.out.tail⟩
            obtain ⟨lv', hlv, htk'⟩ := htk2
            have htaken := EV.taken (r := r) (l := []) hxb6 HW6.out.1.behind htk'
            rw [HX.out] at htaken
            have HW2 := Aside0.mk (show EVP P w0 (w6.setCell ⟨x, 0, none⟩ lv') dv (ovOf og) ⟨r, bad1⟩ from ⟨htaken.1, AllP.rest HEV1.out.2⟩)
            have HGW2 := Aside0.mk (grown_trans HG6.out htaken.2)
            clear hxb6 htaken htk'
            rcases hlv with ⟨hc, hr0, rfl⟩ | ⟨hc, rfl⟩
            · subst hc
              go_wp2_with (first | (go_at_call 86; (with_reducible refine (HI3.out _ HW2.out).mono ?_); rintro e w7 ⟨rfl, hev, hg⟩; have HEV7 := Aside0.mk hev; have HG7 := Aside0.mk hg; clear hev hg) | (go_at_call 137; (refine (HFA.out _ ⟨r, bad1⟩ HEV7.out).mono ?_); rintro e w9 ⟨rfl, hev, hg⟩; have HEV9 := Aside0.mk hev; have HG9 := Aside0.mk hg; clear hev hg))
              go_ret
              exact ⟨rfl, HEV9.out, grown_trans HGW2.out (grown_trans HG7.out HG9.out)⟩
            · go_wp2_with (first | (go_at_call 86; (with_reducible refine (HI3.out _ HW2.out).mono ?_); rintro e w7 ⟨rfl, hev, hg⟩; have HEV7 := Aside0.mk hev; have HG7 := Aside0.mk hg; clear hev hg) | (go_at_call 137; (refine (HFA.out _ ⟨r, bad1⟩ HEV7.out).mono ?_); rintro e w9 ⟨rfl, hev, hg⟩; have HEV9 := Aside0.mk hev; have HG9 := Aside0.mk hg; clear hev hg))
              go_ret
              exact ⟨rfl, HEV9.out, grown_trans HGW2.out (grown_trans HG7.out HG9.out)⟩
        · rw [Bool.not_true, Bool.true_and, if_neg Bool.false_ne_true, if_pos rfl] at hD
          subst hD
          go_enter Tryz.func139, Tryz.ntmps139
          go_wp2_with (first | (go_at_call 86; (with_reducible refine HI1.out.mono ?_); rintro e w1 ⟨rfl, hev, hg⟩; obtain ⟨g, o, c, hxb, hc1, hc2, hgl, a0, a1, a2, a3, htk⟩ := hev.1.opened rfl; have HTK := Aside0.mk htk; rw [HX.out] at hxb hgl; have x0 : w1.cell? ⟨x, 0, none⟩ = some (.slice (some ⟨g, o, none⟩) (r.length + 1) c) := (by rw [blk_cell hxb]; rfl); have x1 : w1.cell? ⟨x, 1, none⟩ = some dv := (by rw [blk_cell hxb]; rfl); have hxl := blk_lt hxb; have HXB := Aside0.mk hxb; have HEV1 := Aside0.mk hev; have HG1 := Aside0.mk hg; clear hev hg hxb htk) | (go_at_call 89; (refine (isName_calls t _).mono ?_); rintro e w5 ⟨rfl, hg⟩; have y0 := hg.cell x0 (by simp); have y1 := hg.cell x1 (by simp); have b2 := hg.cell a2 (by simp); have HXB5 := Aside0.mk ((hg.block x hxl (by simp)).trans HXB.out); have HW5 := Aside0.mk (HEV1.out.grown hg); have HG5 := Aside0.mk (grown_trans HG1.out (grown_any hg)); clear hg))
          have hj0 : (0 : Int) ≤ (r.length : Int) := by omega
          have hj1 : (0 : Int) < (r.length : Int) + 1 := by omega
          go_region_held3 (fun (W : World) => W.cell? ⟨x, 1, none⟩ = some dv ∧ W.cell? ⟨x, 0, none⟩ = some (.slice (some ⟨g, o, none⟩) (r.length + 1) c) ∧ W.cell? ⟨g, o + 2, none⟩ = some (.string t.t)) (first | exact ⟨y1, y0, b2⟩ | exact ⟨y16, y06, b26⟩) (first | (go_at_call 91; (refine (HVL.out _ (EV.grown HW5.out.1 (by repeat (first | exact World.grownBy.refl _ _ | apply grown_drew | apply grown_drewN))).behind).mono ?_); rintro e w6 ⟨rfl, hg⟩; have hg6 : w5.grownBy w6 none := ⟨hg.os, hg.tape, hg.output, hg.size, hg.block⟩; have y16 := hg6.cell y1 (by simp); have y06 := hg6.cell y0 (by simp); have b26 := hg6.cell b2 (by simp); have hxb6 := (hg6.block x (blk_lt HXB5.out) (by simp)).trans HXB5.out; have z06 := blk_frozen hxb6 0; have HXB6 := Aside0.mk hxb6; have HW6 := Aside0.mk (HW5.out.grown hg6); have HG6 := Aside0.mk (grown_trans HG5.out (grown_any hg6)); clear hg hg6 hxb6))
          all_goals
            have hxb6 := HXB6.out
            rw [← HX.out] at hxb6
            have htk2 : ∃ lv', (c = 1 ∧ r.length = 0 ∧ lv' = Value.slice (some ⟨g, o, none⟩) 0 0 ∨ ¬ c = 1 ∧ lv' = Value.slice (some ⟨g, o + 4, none⟩) r.length (c - 1)) ∧ Tks w0 lv' r := by
              by_cases hc : c = 1
              · have hr0 : r.length = 0 := by omega
                refine ⟨_, .inl ⟨hc, hr0, rfl⟩, ?_⟩
                obtain rfl : r = [] := List.eq_nil_of_length_eq_zero hr0
                exact Tks.none
              · exact ⟨_, .inr ⟨hc, rfl⟩, HTK.out.tail⟩
            obtain ⟨lv', hlv, htk'⟩ := htk2
            have htaken := EV.taken (r := r) (l := []) hxb6 HW6.out.1.behind htk'
            rw [HX.out] at htaken
            have HW2 := Aside0.mk (show EVP P w0 (w6.setCell ⟨x, 0, none⟩ lv') dv (ovOf og) ⟨r, bad1⟩ from ⟨htaken.1, AllP.rest HEV1.out.2⟩)
            have HGW2 := Aside0.mk (grown_trans HG6.out htaken.2)
            clear hxb6 htaken htk'
            rcases hlv with ⟨hc, hr0, rfl⟩ | ⟨hc, rfl⟩
            · subst hc
              go_wp2_with (first | (go_at_call 86; (with_reducible refine (HI3.out _ HW2.out).mono ?_); rintro e w7 ⟨rfl, hev, hg⟩; have HEV7 := Aside0.mk hev; have HG7 := Aside0.mk hg; clear hev hg) | (go_at_call 69; (with_reducible refine (bit_calls _ _).mono ?_); rintro e w8 ⟨rfl, rfl⟩))
              go_ret
              exact ⟨rfl, HEV7.out, grown_trans HGW2.out HG7.out⟩
            · go_wp2_with (first | (go_at_call 86; (with_reducible refine (HI3.out _ HW2.out).mono ?_); rintro e w7 ⟨rfl, hev, hg⟩; have HEV7 := Aside0.mk hev; have HG7 := Aside0.mk hg; clear hev hg) | (go_at_call 69; (with_reducible refine (bit_calls _ _).mono ?_); rintro e w8 ⟨rfl, rfl⟩))
              go_ret
              exact ⟨rfl, HEV7.out, grown_trans HGW2.out HG7.out⟩
end Go.Proofs.YtjnafjgonoficaaGreatDoor
namespace Go.Proofs.YtjnafjgonoficaaGreatDoor
open Go.RowKit Go.Proofs.YtjnafjgonoficaaGreatDoorW.PrintWords
set_option linter.unusedVariables false
set_option linter.unusedSimpArgs false
def opCells : Array Value := ((Lx.ops.zip opFuncs).flatMap fun x => [.string ⟨x.1.1.toArray⟩, .int .i64 x.1.2, .func (.func x.2) #[] #[]]).toArray
theorem opsAt_new {w : World} {g : Nat} (h : w.heap[g]? = some (.cells opCells 118 (0, 0))) : OpsAt w g := by
  refine ⟨blk_lt h, fun j o hj => ?_⟩
  have hj13 : j < 13 := (List.getElem?_eq_some_iff.1 hj).1
  rw [blk_cell h, blk_cell h, blk_cell h]
  match j, hj13 with
  | 0, _ => cases hj; exact ⟨rfl, rfl, _, rfl, rfl⟩
  | 1, _ => cases hj; exact ⟨rfl, rfl, _, rfl, rfl⟩
  | 2, _ => cases hj; exact ⟨rfl, rfl, _, rfl, rfl⟩
  | 3, _ => cases hj; exact ⟨rfl, rfl, _, rfl, rfl⟩
  | 4, _ => cases hj; exact ⟨rfl, rfl, _, rfl, rfl⟩
  | 5, _ => cases hj; exact ⟨rfl, rfl, _, rfl, rfl⟩
  | 6, _ => cases hj; exact ⟨rfl, rfl, _, rfl, rfl⟩
  | 7, _ => cases hj; exact ⟨rfl, rfl, _, rfl, rfl⟩
  | 8, _ => cases hj; exact ⟨rfl, rfl, _, rfl, rfl⟩
  | 9, _ => cases hj; exact ⟨rfl, rfl, _, rfl, rfl⟩
  | 10, _ => cases hj; exact ⟨rfl, rfl, _, rfl, rfl⟩
  | 11, _ => cases hj; exact ⟨rfl, rfl, _, rfl, rfl⟩
  | 12, _ => cases hj; exact ⟨rfl, rfl, _, rfl, rfl⟩
set_option maxRecDepth 100000 in
theorem operators_calls (w : World) : Calls Tryz.prog 50 #[] w fun e w' => e = .returned (.slice (some ⟨w.heap.size, 0, none⟩) 13 13) ∧ w' = w.alloc (.cells opCells 118) := by
  go_enter Tryz.func50, Tryz.ntmps50
  go_wp2_with fail
  go_ret
  exact ⟨rfl, rfl⟩
end Go.Proofs.YtjnafjgonoficaaGreatDoor
namespace Go.Proofs.YtjnafjgonoficaaGreatDoor
open Go.RowKit Go.Proofs.YtjnafjgonoficaaGreatDoorW.PrintWords
set_option linter.unusedVariables false
set_option linter.unusedSimpArgs false
theorem iter_kept (w3 w5 : World) (s : ByteArray) (p : Nat) (hb : Below (w3.iter s p).heap.size (w3.iter s p) w5) : w5.heap[w3.heap.size]? = some (.stringIter s p) := by
  have h1 := World.iter_heap w3 s p
  have hg := grown_below (World.grownBy.refl (w3.iter s p) none) hb
  exact (hg.block w3.heap.size (Array.getElem?_eq_some_iff.1 h1).1 (by simp)).trans h1
set_option maxRecDepth 100000 in
  theorem cut_one (w : World) (hT : Lib.Utf8Tabs 6 7 w) : Calls Tryz.prog 166 #[.string ⟨#[49]⟩, .string ⟨#[117, 108, 85, 76]⟩] w fun e w' => e = .returned (.string ⟨#[49]⟩) ∧ Below w.heap.size w w' := by
    have h := Tryz.utf8_DecodeLastRuneInString ⟨#[49]⟩ w (by decide) hT
    rw [show Lib.decodeLastL (ByteArray.mk #[49]).data.toList = (49, 1) from by decide] at h
    have H := Aside0.mk h
    clear hT h
    have n0 : ∀ (W : World) (ty : TypeId), (Instr.next (.pointer (some ⟨W.heap.size, 0, none⟩)) true ty).run Tryz.prog (W.iter ⟨#[117, 108, 85, 76]⟩ 0) = .ok (.tuple #[.bool true, .int .i64 0, .int .i32 117]) (W.iter ⟨#[117, 108, 85, 76]⟩ 1) := fun W ty => run_next_ascii W ⟨#[117, 108, 85, 76]⟩ 0 ty (by decide) (by decide)
    have n1 : ∀ (W : World) (ty : TypeId), (Instr.next (.pointer (some ⟨W.heap.size, 0, none⟩)) true ty).run Tryz.prog (W.iter ⟨#[117, 108, 85, 76]⟩ 1) = .ok (.tuple #[.bool true, .int .i64 1, .int .i32 108]) (W.iter ⟨#[117, 108, 85, 76]⟩ 2) := fun W ty => run_next_ascii W ⟨#[117, 108, 85, 76]⟩ 1 ty (by decide) (by decide)
    have n2 : ∀ (W : World) (ty : TypeId), (Instr.next (.pointer (some ⟨W.heap.size, 0, none⟩)) true ty).run Tryz.prog (W.iter ⟨#[117, 108, 85, 76]⟩ 2) = .ok (.tuple #[.bool true, .int .i64 2, .int .i32 85]) (W.iter ⟨#[117, 108, 85, 76]⟩ 3) := fun W ty => run_next_ascii W ⟨#[117, 108, 85, 76]⟩ 2 ty (by decide) (by decide)
    have n3 : ∀ (W : World) (ty : TypeId), (Instr.next (.pointer (some ⟨W.heap.size, 0, none⟩)) true ty).run Tryz.prog (W.iter ⟨#[117, 108, 85, 76]⟩ 3) = .ok (.tuple #[.bool true, .int .i64 3, .int .i32 76]) (W.iter ⟨#[117, 108, 85, 76]⟩ 4) := fun W ty => run_next_ascii W ⟨#[117, 108, 85, 76]⟩ 3 ty (by decide) (by decide)
    have n4 := fun (W : World) (ty : TypeId) => @run_next_end Tryz.prog W ⟨#[117, 108, 85, 76]⟩ 4 ty (by decide)
    go_enter Tryz.func166, Tryz.ntmps166
    go_wp2_with fail
    refine wp_loop_rounds 1 ?_
    rw [rounds_succ]
    go_wp2_with (go_at_call 182; (refine H.out.mono ?_); rintro e w1 ⟨rfl, hb⟩; have HB := Aside0.mk hb; clear hb)
    refine wp_loop_rounds 5 ?_
    rw [rounds_succ]
    go_wp2_with fail
    rw [rounds_succ]
    go_wp2_with fail
    rw [rounds_succ]
    go_wp2_with fail
    rw [rounds_succ]
    go_wp2_with fail
    rw [rounds_succ]
    go_wp2_with fail
    go_ret
    exact ⟨rfl, show Below w.heap.size w (w1.alloc _) from HB.out.alloc HB.out.size _⟩
set_option maxRecDepth 100000 in
    theorem cut_two (w : World) (hT : Lib.Utf8Tabs 6 7 w) : Calls Tryz.prog 166 #[.string ⟨#[50]⟩, .string ⟨#[117, 108, 85, 76]⟩] w fun e w' => e = .returned (.string ⟨#[50]⟩) ∧ Below w.heap.size w w' := by
      have h := Tryz.utf8_DecodeLastRuneInString ⟨#[50]⟩ w (by decide) hT
      rw [show Lib.decodeLastL (ByteArray.mk #[50]).data.toList = (50, 1) from by decide] at h
      have H := Aside0.mk h
      clear hT h
      have n0 : ∀ (W : World) (ty : TypeId), (Instr.next (.pointer (some ⟨W.heap.size, 0, none⟩)) true ty).run Tryz.prog (W.iter ⟨#[117, 108, 85, 76]⟩ 0) = .ok (.tuple #[.bool true, .int .i64 0, .int .i32 117]) (W.iter ⟨#[117, 108, 85, 76]⟩ 1) := fun W ty => run_next_ascii W ⟨#[117, 108, 85, 76]⟩ 0 ty (by decide) (by decide)
      have n1 : ∀ (W : World) (ty : TypeId), (Instr.next (.pointer (some ⟨W.heap.size, 0, none⟩)) true ty).run Tryz.prog (W.iter ⟨#[117, 108, 85, 76]⟩ 1) = .ok (.tuple #[.bool true, .int .i64 1, .int .i32 108]) (W.iter ⟨#[117, 108, 85, 76]⟩ 2) := fun W ty => run_next_ascii W ⟨#[117, 108, 85, 76]⟩ 1 ty (by decide) (by decide)
      have n2 : ∀ (W : World) (ty : TypeId), (Instr.next (.pointer (some ⟨W.heap.size, 0, none⟩)) true ty).run Tryz.prog (W.iter ⟨#[117, 108, 85, 76]⟩ 2) = .ok (.tuple #[.bool true, .int .i64 2, .int .i32 85]) (W.iter ⟨#[117, 108, 85, 76]⟩ 3) := fun W ty => run_next_ascii W ⟨#[117, 108, 85, 76]⟩ 2 ty (by decide) (by decide)
      have n3 : ∀ (W : World) (ty : TypeId), (Instr.next (.pointer (some ⟨W.heap.size, 0, none⟩)) true ty).run Tryz.prog (W.iter ⟨#[117, 108, 85, 76]⟩ 3) = .ok (.tuple #[.bool true, .int .i64 3, .int .i32 76]) (W.iter ⟨#[117, 108, 85, 76]⟩ 4) := fun W ty => run_next_ascii W ⟨#[117, 108, 85, 76]⟩ 3 ty (by decide) (by decide)
      have n4 := fun (W : World) (ty : TypeId) => @run_next_end Tryz.prog W ⟨#[117, 108, 85, 76]⟩ 4 ty (by decide)
      go_enter Tryz.func166, Tryz.ntmps166
      go_wp2_with fail
      refine wp_loop_rounds 1 ?_
      rw [rounds_succ]
      go_wp2_with (go_at_call 182; (refine H.out.mono ?_); rintro e w1 ⟨rfl, hb⟩; have HB := Aside0.mk hb; clear hb)
      refine wp_loop_rounds 5 ?_
      rw [rounds_succ]
      go_wp2_with fail
      rw [rounds_succ]
      go_wp2_with fail
      rw [rounds_succ]
      go_wp2_with fail
      rw [rounds_succ]
      go_wp2_with fail
      rw [rounds_succ]
      go_wp2_with fail
      go_ret
      exact ⟨rfl, show Below w.heap.size w (w1.alloc _) from HB.out.alloc HB.out.size _⟩
set_option maxRecDepth 100000 in
      theorem rune_one (w : World) : Calls Tryz.prog 168 #[.string ⟨#[48, 49, 50, 51, 52, 53, 54, 55, 56, 57]⟩, .int .i32 49] w fun e w' => e = .returned (.int .i64 1) ∧ Below w.heap.size w w' := by
        have n0 : ∀ (W : World) (ty : TypeId), (Instr.next (.pointer (some ⟨W.heap.size, 0, none⟩)) true ty).run Tryz.prog (W.iter ⟨#[48, 49, 50, 51, 52, 53, 54, 55, 56, 57]⟩ 0) = .ok (.tuple #[.bool true, .int .i64 0, .int .i32 48]) (W.iter ⟨#[48, 49, 50, 51, 52, 53, 54, 55, 56, 57]⟩ 1) := fun W ty => run_next_ascii W ⟨#[48, 49, 50, 51, 52, 53, 54, 55, 56, 57]⟩ 0 ty (by decide) (by decide)
        have n1 : ∀ (W : World) (ty : TypeId), (Instr.next (.pointer (some ⟨W.heap.size, 0, none⟩)) true ty).run Tryz.prog (W.iter ⟨#[48, 49, 50, 51, 52, 53, 54, 55, 56, 57]⟩ 1) = .ok (.tuple #[.bool true, .int .i64 1, .int .i32 49]) (W.iter ⟨#[48, 49, 50, 51, 52, 53, 54, 55, 56, 57]⟩ 2) := fun W ty => run_next_ascii W ⟨#[48, 49, 50, 51, 52, 53, 54, 55, 56, 57]⟩ 1 ty (by decide) (by decide)
        have n2 : ∀ (W : World) (ty : TypeId), (Instr.next (.pointer (some ⟨W.heap.size, 0, none⟩)) true ty).run Tryz.prog (W.iter ⟨#[48, 49, 50, 51, 52, 53, 54, 55, 56, 57]⟩ 2) = .ok (.tuple #[.bool true, .int .i64 2, .int .i32 50]) (W.iter ⟨#[48, 49, 50, 51, 52, 53, 54, 55, 56, 57]⟩ 3) := fun W ty => run_next_ascii W ⟨#[48, 49, 50, 51, 52, 53, 54, 55, 56, 57]⟩ 2 ty (by decide) (by decide)
        go_enter Tryz.func168, Tryz.ntmps168
        go_wp2_with fail
        refine wp_loop_rounds 3 ?_
        rw [rounds_succ]
        go_wp2_with fail
        rw [rounds_succ]
        go_wp2_with fail
        go_ret
        exact ⟨rfl, show Below w.heap.size w (w.alloc _) from (Below.refl _ _).alloc (Nat.le_refl _) _⟩
set_option maxRecDepth 100000 in
        theorem rune_two (w : World) : Calls Tryz.prog 168 #[.string ⟨#[48, 49, 50, 51, 52, 53, 54, 55, 56, 57]⟩, .int .i32 50] w fun e w' => e = .returned (.int .i64 2) ∧ Below w.heap.size w w' := by
          have n0 : ∀ (W : World) (ty : TypeId), (Instr.next (.pointer (some ⟨W.heap.size, 0, none⟩)) true ty).run Tryz.prog (W.iter ⟨#[48, 49, 50, 51, 52, 53, 54, 55, 56, 57]⟩ 0) = .ok (.tuple #[.bool true, .int .i64 0, .int .i32 48]) (W.iter ⟨#[48, 49, 50, 51, 52, 53, 54, 55, 56, 57]⟩ 1) := fun W ty => run_next_ascii W ⟨#[48, 49, 50, 51, 52, 53, 54, 55, 56, 57]⟩ 0 ty (by decide) (by decide)
          have n1 : ∀ (W : World) (ty : TypeId), (Instr.next (.pointer (some ⟨W.heap.size, 0, none⟩)) true ty).run Tryz.prog (W.iter ⟨#[48, 49, 50, 51, 52, 53, 54, 55, 56, 57]⟩ 1) = .ok (.tuple #[.bool true, .int .i64 1, .int .i32 49]) (W.iter ⟨#[48, 49, 50, 51, 52, 53, 54, 55, 56, 57]⟩ 2) := fun W ty => run_next_ascii W ⟨#[48, 49, 50, 51, 52, 53, 54, 55, 56, 57]⟩ 1 ty (by decide) (by decide)
          have n2 : ∀ (W : World) (ty : TypeId), (Instr.next (.pointer (some ⟨W.heap.size, 0, none⟩)) true ty).run Tryz.prog (W.iter ⟨#[48, 49, 50, 51, 52, 53, 54, 55, 56, 57]⟩ 2) = .ok (.tuple #[.bool true, .int .i64 2, .int .i32 50]) (W.iter ⟨#[48, 49, 50, 51, 52, 53, 54, 55, 56, 57]⟩ 3) := fun W ty => run_next_ascii W ⟨#[48, 49, 50, 51, 52, 53, 54, 55, 56, 57]⟩ 2 ty (by decide) (by decide)
          go_enter Tryz.func168, Tryz.ntmps168
          go_wp2_with fail
          refine wp_loop_rounds 3 ?_
          rw [rounds_succ]
          go_wp2_with fail
          rw [rounds_succ]
          go_wp2_with fail
          rw [rounds_succ]
          go_wp2_with fail
          go_ret
          exact ⟨rfl, show Below w.heap.size w (w.alloc _) from (Below.refl _ _).alloc (Nat.le_refl _) _⟩
set_option maxRecDepth 100000 in
          theorem number_one (w : World) (hT : Lib.Utf8Tabs 6 7 w) (hV : Lib.CaseVar 5 Lib.caseA w) : Calls Tryz.prog 138 #[.string ⟨#[49]⟩] w fun e w' => e = .returned (.tuple #[.int .i64 1, .bool true]) ∧ Below w.heap.size w w' := by
            have HC := Aside0.mk (cut_one w hT)
            have HT := Aside0.mk hT
            have HV := Aside0.mk hV
            clear hT hV
            have n0 : ∀ (W : World) (ty : TypeId), (Instr.next (.pointer (some ⟨W.heap.size, 0, none⟩)) true ty).run Tryz.prog (W.iter ⟨#[49]⟩ 0) = .ok (.tuple #[.bool true, .int .i64 0, .int .i32 49]) (W.iter ⟨#[49]⟩ 1) := fun W ty => run_next_ascii W ⟨#[49]⟩ 0 ty (by decide) (by decide)
            have n1 := fun (W : World) (ty : TypeId) => @run_next_end Tryz.prog W ⟨#[49]⟩ 1 ty (by decide)
            have htl : Lib.toLowerD (ByteArray.mk #[49]).data.toList = [49] := by decide
            have HTL := Aside0.mk htl
            clear htl
            go_enter Tryz.func138, Tryz.ntmps138
            go_wp2_with (first | (go_at_call 166; (refine HC.out.mono ?_); rintro e w1 ⟨rfl, hb⟩; have HB := Aside0.mk hb; clear hb) | (go_at_call 40; (refine (Tryz.strings_HasPrefix _ _ _).mono ?_); rintro e w' ⟨rfl, rfl⟩) | (go_at_call 167; (refine (Tryz.strings_ToLower_any ⟨#[49]⟩ _ (by decide) (Lib.CaseVar_below HV.out HB.out) (Utf8Tabs_below HT.out HB.out)).mono ?_); rintro e w3 ⟨rfl, hb⟩; rw [HTL.out]; have HB3 := Aside0.mk (HB.out.trans (hb.mono HB.out.size)); clear hb))
            refine wp_loop_rounds 2 ?_
            rw [rounds_succ]
            go_wp2_with (go_at_call 168; (refine (rune_one _).mono ?_); rintro e w5 ⟨rfl, hb⟩; have hit := iter_kept _ _ _ _ hb; have m1 := fun (ty : TypeId) => @Lib.run_next_end_at Tryz.prog w5 w3.heap.size ⟨#[49]⟩ 1 ty hit (by decide); have HB5 := Aside0.mk hb; clear hb hit)
            rw [rounds_succ]
            go_wp2_with fail
            go_ret2
            refine ⟨rfl, ?_⟩
            have h1 : Below w.heap.size w (w3.iter ⟨#[49]⟩ 1) := show Below w.heap.size w (w3.alloc _) from HB3.out.alloc HB3.out.size _
            exact h1.trans (HB5.out.mono h1.size)
set_option maxRecDepth 100000 in
            theorem number_two (w : World) (hT : Lib.Utf8Tabs 6 7 w) (hV : Lib.CaseVar 5 Lib.caseA w) : Calls Tryz.prog 138 #[.string ⟨#[50]⟩] w fun e w' => e = .returned (.tuple #[.int .i64 2, .bool true]) ∧ Below w.heap.size w w' := by
              have HC := Aside0.mk (cut_two w hT)
              have HT := Aside0.mk hT
              have HV := Aside0.mk hV
              clear hT hV
              have n0 : ∀ (W : World) (ty : TypeId), (Instr.next (.pointer (some ⟨W.heap.size, 0, none⟩)) true ty).run Tryz.prog (W.iter ⟨#[50]⟩ 0) = .ok (.tuple #[.bool true, .int .i64 0, .int .i32 50]) (W.iter ⟨#[50]⟩ 1) := fun W ty => run_next_ascii W ⟨#[50]⟩ 0 ty (by decide) (by decide)
              have n1 := fun (W : World) (ty : TypeId) => @run_next_end Tryz.prog W ⟨#[50]⟩ 1 ty (by decide)
              have htl : Lib.toLowerD (ByteArray.mk #[50]).data.toList = [50] := by decide
              have HTL := Aside0.mk htl
              clear htl
              go_enter Tryz.func138, Tryz.ntmps138
              go_wp2_with (first | (go_at_call 166; (refine HC.out.mono ?_); rintro e w1 ⟨rfl, hb⟩; have HB := Aside0.mk hb; clear hb) | (go_at_call 40; (refine (Tryz.strings_HasPrefix _ _ _).mono ?_); rintro e w' ⟨rfl, rfl⟩) | (go_at_call 167; (refine (Tryz.strings_ToLower_any ⟨#[50]⟩ _ (by decide) (Lib.CaseVar_below HV.out HB.out) (Utf8Tabs_below HT.out HB.out)).mono ?_); rintro e w3 ⟨rfl, hb⟩; rw [HTL.out]; have HB3 := Aside0.mk (HB.out.trans (hb.mono HB.out.size)); clear hb))
              refine wp_loop_rounds 2 ?_
              rw [rounds_succ]
              go_wp2_with (go_at_call 168; (refine (rune_two _).mono ?_); rintro e w5 ⟨rfl, hb⟩; have hit := iter_kept _ _ _ _ hb; have m1 := fun (ty : TypeId) => @Lib.run_next_end_at Tryz.prog w5 w3.heap.size ⟨#[50]⟩ 1 ty hit (by decide); have HB5 := Aside0.mk hb; clear hb hit)
              rw [rounds_succ]
              go_wp2_with fail
              go_ret2
              refine ⟨rfl, ?_⟩
              have h1 : Below w.heap.size w (w3.iter ⟨#[50]⟩ 1) := show Below w.heap.size w (w3.alloc _) from HB3.out.alloc HB3.out.size _
              exact h1.trans (HB5.out.mono h1.size)
end Go.Proofs.YtjnafjgonoficaaGreatDoor
namespace Go.Proofs.YtjnafjgonoficaaGreatDoor
open Go.RowKit Go.Proofs.YtjnafjgonoficaaGreatDoorW.PrintWords
set_option linter.unusedVariables false
set_option linter.unusedSimpArgs false
set_option maxRecDepth 100000 in
set_option maxHeartbeats 4000000 in
theorem eval_from {num val : ByteArray → Int × Bool} {P : Lx.Tok → Prop} {DA : Option Addr} {DN DC : Nat} (s : ByteArray) (w : World) (m : Nat) (R : Int × Bool) (hs : s.size ≤ 20000) (hm : MaxLen w) (hbl : Blanks w) (h5 : 5 ≤ w.heap.size) (hP : ∀ t ∈ Lx.wd s 0, P t)
    (hC : ∀ (w0 : World) (og : Nat), Below w.heap.size w w0 → OpsAt w0 og → EnvC num val P w0 (.slice DA DN DC) og) (hB : ∀ (w0 : World) (og : Nat), EnvC num val P w0 (.slice DA DN DC) og → BinC num val P w0 (.slice DA DN DC) og m) (hR : Lx.evalF num val m (Lx.wd s 0) = some R) :
    Calls Tryz.prog 25 #[.string s, (.slice DA DN DC)] w fun e w' => e = .returned (.tuple #[.int .i64 R.1, .bool R.2]) ∧ Below w.heap.size w w' := by
  have HWD := Aside0.mk (words_calls s.size s 0 w rfl hs (by omega) (by omega) hm hbl h5)
  unfold Lx.evalF at hR
  cases hb : Lx.binF num val m 1 ⟨Lx.wd s 0, false⟩ with
  | none => rw [hb] at hR; cases hR
  | some q =>
  obtain ⟨v, T⟩ := q
  rw [hb] at hR
  dsimp only at hR
  have HB := Aside0.mk hB
  have HC := Aside0.mk hC
  have HP := Aside0.mk (show AllP P (Lx.wd s 0) from ⟨hP, by have := Lx.wd_len s 0; omega⟩)
  have HBN := Aside0.mk hb
  obtain ⟨tl, bad⟩ := T
  obtain ⟨n3, hn3⟩ : ∃ n3, tl.length = n3 := ⟨_, rfl⟩
  have HN3 := Aside0.mk hn3
  have hRR : R = (if (bad || decide (0 < n3)) = true then (0, false) else (v, true)) := by
    rw [← hn3]
    dsimp only at hR
    cases bad <;> cases tl <;> simp at hR ⊢ <;> exact hR.symm
  clear hn3 hR
  clear hm hbl hs hP hC hB hb
  have key : ∀ (w1 : World) (v1 : Value), w1.ownsRow w.heap.size 29 4 v1 (Lx.wd s 0).length (tokCells (Lx.wd s 0)) → Below w.heap.size w w1 →
      Calls Tryz.prog 51 #[.pointer (some ⟨w1.heap.size + 1, 0, none⟩), .int .i64 1] ((w1.alloc (.cells opCells 118)).alloc (.cells #[v1, (.slice DA DN DC), .slice (some ⟨w1.heap.size, 0, none⟩) 13 13, .bool false] 95)) fun e w' =>
        e = .returned (.int .i64 v) ∧ EV (w1.alloc (.cells opCells 118)) w' (.slice DA DN DC) (ovOf w1.heap.size) ⟨tl, bad⟩ ∧ Below w.heap.size w w' := by
    intro w1 v1 hown hbw
    have hbw2 := hbw.alloc hbw.size (.cells opCells 118)
    have hops : OpsAt (w1.alloc (.cells opCells 118)) w1.heap.size := opsAt_new (blk_new w1 _)
    have henv := HC.out _ _ hbw2 hops
    have hbin := HB.out _ _ henv
    have hx : (w1.alloc (.cells opCells 118)).heap.size = w1.heap.size + 1 := by simp
    have hev : EVP P (w1.alloc (.cells opCells 118)) ((w1.alloc (.cells opCells 118)).alloc (.cells #[v1, (.slice DA DN DC), .slice (some ⟨w1.heap.size, 0, none⟩) 13 13, .bool false] 95)) (.slice DA DN DC) (ovOf w1.heap.size) ⟨Lx.wd s 0, false⟩ := by
      refine ⟨⟨v1, blk_new _ _, own_tks (hown.alloc _), (Below.refl _ _).alloc (Nat.le_refl _) _⟩, HP.out⟩
    have h1 := hbin _ 1 _ _ _ (Nat.le_refl _) (by omega) HBN.out hev
    rw [hx] at h1
    refine h1.mono ?_
    rintro e w' ⟨e1, e2, e3⟩
    refine ⟨e1, e2.1, ?_⟩
    have hb3 := hbw2.alloc hbw2.size (.cells #[v1, (.slice DA DN DC), .slice (some ⟨w1.heap.size, 0, none⟩) 13 13, .bool false] 95)
    exact hb3.grown e3 hb3.size (fun k hk => by cases hk; have := hbw.size; omega)
  have KEY := Aside0.mk key
  clear key HB HC HP HBN
  have hcs : bad = true ∨ bad = false ∧ (n3 = 0 ∨ decide ((0 : Int) < (n3 : Int)) = true ∧ 0 < n3) := by
    cases bad
    · right
      refine ⟨rfl, ?_⟩
      rcases Nat.eq_zero_or_pos n3 with h | h
      · exact .inl h
      · exact .inr ⟨decide_eq_true (by omega), h⟩
    · exact .inl rfl
  rcases hcs with rfl | ⟨rfl, rfl | ⟨hd, hpos⟩⟩
  all_goals
    simp only [Bool.true_or, Bool.false_or, if_true, Nat.lt_irrefl, decide_false, Bool.false_eq_true, if_false] at hRR
    try rw [decide_eq_true hpos, if_pos rfl] at hRR
    subst hRR
    go_enter Tryz.func25, Tryz.ntmps25
    go_wp2_with (first | (go_at_call 41; (refine HWD.out.mono ?_); rintro e w1 ⟨v1, rfl, hown, hb⟩; have HK := Aside0.mk (KEY.out w1 v1 hown hb); obtain ⟨A1, c1, rfl⟩ := own_slice hown; clear hown hb) | (go_at_call 50; (refine (operators_calls _).mono ?_); rintro e w2 ⟨rfl, rfl⟩) | (go_at_call 51; (refine HK.out.mono ?_); rintro e w3 ⟨rfl, hev, hb⟩; obtain ⟨lv3, hxb, htk3, -⟩ := hev; obtain ⟨A3, c3, rfl, -, -, -⟩ := htk3; rw [show (w1.alloc (.cells opCells 118)).heap.size = w1.heap.size + 1 from by simp] at hxb; dsimp only at hxb; rw [HN3.out] at hxb; have x0 : w3.cell? ⟨w1.heap.size + 1, 0, none⟩ = some (.slice A3 _ c3) := (by rw [blk_cell hxb]; rfl); have x3 : w3.cell? ⟨w1.heap.size + 1, 3, none⟩ = some (.bool _) := (by rw [blk_cell hxb]; rfl); have HB3 := Aside0.mk hb; clear hb hxb))
    go_ret2
    exact ⟨rfl, HB3.out⟩
end Go.Proofs.YtjnafjgonoficaaGreatDoor
namespace Go.Proofs.YtjnafjgonoficaaGreatDoor
open Go.RowKit Go.Proofs.YtjnafjgonoficaaGreatDoorW.PrintWords
set_option linter.unusedVariables false
set_option linter.unusedSimpArgs false
/-- What is asked of the walk of 'one': at each fuel, from the operands at less. -/
def OneStep (num val : ByteArray → Int × Bool) (P : Lx.Tok → Prop) (w0 : World) (dv : Value) (og : Nat) : Prop := ∀ m, (∀ k, k < m → OperC num val P w0 dv og k) → OneC num val P w0 dv og m
theorem bin_all {num val : ByteArray → Int × Bool} {P : Lx.Tok → Prop} {w0 : World} {dv : Value} {og : Nat} (hC : EnvC num val P w0 dv og) (hO : OneStep num val P w0 dv og) : ∀ m, BinC num val P w0 dv og m ∧ OneC num val P w0 dv og m ∧ OperC num val P w0 dv og m := by
  intro m
  induction m using Nat.strongRecOn with
  | ind m ih => exact ⟨bin_step hC m (fun k hk => (ih k hk).1) (fun k hk => (ih k hk).2.1), hO m (fun k hk => (ih k hk).2.2), oper_step hC (defined_holds hC) m (fun k hk => (ih k hk).1)⟩
end Go.Proofs.YtjnafjgonoficaaGreatDoor
namespace Go.Proofs.YtjnafjgonoficaaGreatDoor
open Go.RowKit Go.Proofs.YtjnafjgonoficaaGreatDoorW.PrintWords
set_option linter.unusedVariables false
set_option linter.unusedSimpArgs false
namespace Lx
theorem signs_cons (t : Tok) (r : List Tok) (h : isSign t = true) : signsOf (t :: r) = t.t :: signsOf r ∧ afterSigns (t :: r) = afterSigns r := by
  unfold signsOf afterSigns
  rw [List.takeWhile_cons, List.dropWhile_cons, if_pos h, if_pos h]
  exact ⟨rfl, rfl⟩
theorem signs_stop (l : List Tok) (bad : Bool) (h1 : isS ⟨l, bad⟩ [33] = false) (h2 : isS ⟨l, bad⟩ [45] = false) (h3 : isS ⟨l, bad⟩ [43] = false) : signsOf l = [] ∧ afterSigns l = l := by
  cases l with
  | nil => exact ⟨rfl, rfl⟩
  | cons t r =>
    have hn : isSign t = false := by
      unfold isS at h1 h2 h3
      dsimp only at h1 h2 h3
      unfold isSign
      cases hk : decide (t.k = 6)
      · rfl
      · rw [hk, Bool.true_and] at h1 h2 h3
        rw [h1, h2, h3]; rfl
    unfold signsOf afterSigns
    rw [List.takeWhile_cons, List.dropWhile_cons, hn]
    exact ⟨rfl, rfl⟩
theorem sign_came (l : List Tok) (bad : Bool) (g : List UInt8) (hg : g = [33] ∨ g = [45] ∨ g = [43]) (h : isS ⟨l, bad⟩ g = true) : ∃ t r, l = t :: r ∧ isSign t = true ∧ t.t.toList = g := by
  cases l with
  | nil => cases h
  | cons t r =>
    unfold isS at h
    dsimp only at h
    rw [Bool.and_eq_true] at h
    refine ⟨t, r, rfl, ?_, beq_iff_eq.mp h.2⟩
    unfold isSign
    rw [h.1, Bool.true_and]
    rcases hg with rfl | rfl | rfl
    · rw [h.2]; rfl
    · rw [h.2]; simp
    · rw [h.2]; simp
end Lx
theorem bytes_toList {b : ByteArray} {l : List UInt8} (h : b.toList = l) : b = ⟨l.toArray⟩ := by
  rw [ByteArray.toList_eq] at h
  cases b with
  | mk d => subst h; simp
end Go.Proofs.YtjnafjgonoficaaGreatDoor
