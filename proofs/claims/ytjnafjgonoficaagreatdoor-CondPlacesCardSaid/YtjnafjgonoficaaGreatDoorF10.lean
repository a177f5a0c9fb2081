/-
  What the operators of the evaluator do. Conditions: none.
-/
import Derived.Test.YtjnafjgonoficaaGreatDoorF07
set_option linter.unusedVariables false
set_option linter.unusedSimpArgs false
namespace Go.Proofs.YtjnafjgonoficaaGreatDoor
open Go.RowKit Go.Proofs.YtjnafjgonoficaaGreatDoorW.PrintWords
theorem bit_calls (b:Bool) (w:World):Calls Tryz.prog 69 #[.bool b] w fun e w'=>e=.returned (.int .i64 (Lx.bit b))∧w=w':=by
  cases b
  all_goals
    go_enter Tryz.func69,Tryz.ntmps69
    go_wp2_with fail
    go_ret
    exact ⟨rfl,rfl⟩
theorem isName_calls (t:Lx.Tok) (w:World):Calls Tryz.prog 89 #[tokV t] w fun e w'=>e=.returned (.bool (t.k == 1))∧w.grownBy w' none:=by
  unfold tokV
  go_enter Tryz.func89,Tryz.ntmps89
  go_wp2_with fail
  go_ret
  exact ⟨rfl,World.grownBy_alloc _ _ _⟩
theorem op2_calls (a b:Int) (w:World):Calls Tryz.prog 71 #[.int .i64 a,.int .i64 b] w fun e w'=>e=.returned (.int .i64 (Lx.bit (a == b)))∧w=w':=by
  go_enter Tryz.func71,Tryz.ntmps71
  go_wp2_with (go_at_call 69;(with_reducible refine (bit_calls _ _).mono ?_);rintro e w' ⟨rfl,rfl⟩)
  go_ret
  exact ⟨rfl,rfl⟩
theorem op3_calls (a b:Int) (w:World):Calls Tryz.prog 72 #[.int .i64 a,.int .i64 b] w fun e w'=>e=.returned (.int .i64 (Lx.bit (a != b)))∧w=w':=by
  go_enter Tryz.func72,Tryz.ntmps72
  go_wp2_with (go_at_call 69;(with_reducible refine (bit_calls _ _).mono ?_);rintro e w' ⟨rfl,rfl⟩)
  go_ret
  exact ⟨rfl,rfl⟩
theorem op4_calls (a b:Int) (w:World):Calls Tryz.prog 73 #[.int .i64 a,.int .i64 b] w fun e w'=>e=.returned (.int .i64 (Lx.bit (decide (a < b))))∧w=w':=by
  go_enter Tryz.func73,Tryz.ntmps73
  go_wp2_with (go_at_call 69;(with_reducible refine (bit_calls _ _).mono ?_);rintro e w' ⟨rfl,rfl⟩)
  go_ret
  exact ⟨rfl,rfl⟩
theorem op5_calls (a b:Int) (w:World):Calls Tryz.prog 74 #[.int .i64 a,.int .i64 b] w fun e w'=>e=.returned (.int .i64 (Lx.bit (decide (a ≤ b))))∧w=w':=by
  go_enter Tryz.func74,Tryz.ntmps74
  go_wp2_with (go_at_call 69;(with_reducible refine (bit_calls _ _).mono ?_);rintro e w' ⟨rfl,rfl⟩)
  go_ret
  exact ⟨rfl,rfl⟩
theorem op6_calls (a b:Int) (w:World):Calls Tryz.prog 75 #[.int .i64 a,.int .i64 b] w fun e w'=>e=.returned (.int .i64 (Lx.bit (decide (b < a))))∧w=w':=by
  go_enter Tryz.func75,Tryz.ntmps75
  go_wp2_with (go_at_call 69;(with_reducible refine (bit_calls _ _).mono ?_);rintro e w' ⟨rfl,rfl⟩)
  go_ret
  exact ⟨rfl,rfl⟩
theorem op7_calls (a b:Int) (w:World):Calls Tryz.prog 76 #[.int .i64 a,.int .i64 b] w fun e w'=>e=.returned (.int .i64 (Lx.bit (decide (b ≤ a))))∧w=w':=by
  go_enter Tryz.func76,Tryz.ntmps76
  go_wp2_with (go_at_call 69;(with_reducible refine (bit_calls _ _).mono ?_);rintro e w' ⟨rfl,rfl⟩)
  go_ret
  exact ⟨rfl,rfl⟩
theorem op8_calls (a b:Int) (w:World):Calls Tryz.prog 77 #[.int .i64 a,.int .i64 b] w fun e w'=>e=.returned (.int .i64 (Lx.w64 (a + b)))∧w=w':=by
  unfold Lx.w64
  go_enter Tryz.func77,Tryz.ntmps77
  go_wp2_with (go_at_call 69;(with_reducible refine (bit_calls _ _).mono ?_);rintro e w' ⟨rfl,rfl⟩)
  go_ret
  exact ⟨rfl,rfl⟩
theorem op9_calls (a b:Int) (w:World):Calls Tryz.prog 78 #[.int .i64 a,.int .i64 b] w fun e w'=>e=.returned (.int .i64 (Lx.w64 (a - b)))∧w=w':=by
  unfold Lx.w64
  go_enter Tryz.func78,Tryz.ntmps78
  go_wp2_with (go_at_call 69;(with_reducible refine (bit_calls _ _).mono ?_);rintro e w' ⟨rfl,rfl⟩)
  go_ret
  exact ⟨rfl,rfl⟩
theorem op10_calls (a b:Int) (w:World):Calls Tryz.prog 79 #[.int .i64 a,.int .i64 b] w fun e w'=>e=.returned (.int .i64 (Lx.w64 (a * b)))∧w=w':=by
  unfold Lx.w64
  go_enter Tryz.func79,Tryz.ntmps79
  go_wp2_with (go_at_call 69;(with_reducible refine (bit_calls _ _).mono ?_);rintro e w' ⟨rfl,rfl⟩)
  go_ret
  exact ⟨rfl,rfl⟩
theorem op0_calls (a b:Int) (w:World):Calls Tryz.prog 68 #[.int .i64 a,.int .i64 b] w fun e w'=>e=.returned (.int .i64 (Lx.bit (a != 0 || b != 0)))∧w=w':=by
  cases ha:(a != 0) <;> cases hb:(b != 0)
  all_goals
    go_enter Tryz.func68,Tryz.ntmps68
    go_wp2_with (go_at_call 69;(with_reducible refine (bit_calls _ _).mono ?_);rintro e w' ⟨rfl,rfl⟩)
    go_ret
    exact ⟨rfl,rfl⟩
theorem op1_calls (a b:Int) (w:World):Calls Tryz.prog 70 #[.int .i64 a,.int .i64 b] w fun e w'=>e=.returned (.int .i64 (Lx.bit (a != 0 && b != 0)))∧w=w':=by
  cases ha:(a != 0) <;> cases hb:(b != 0)
  all_goals
    go_enter Tryz.func70,Tryz.ntmps70
    go_wp2_with (go_at_call 69;(with_reducible refine (bit_calls _ _).mono ?_);rintro e w' ⟨rfl,rfl⟩)
    go_ret
    exact ⟨rfl,rfl⟩
theorem quo_calls (a b:Int) (w:World):Calls Tryz.prog 81 #[.int .i64 a,.int .i64 b] w fun e w'=>e=.returned (.int .i64 (Lx.quo a b))∧w=w':=by
  unfold Lx.quo Lx.w64
  by_cases hb:b=0
  · subst hb
    go_enter Tryz.func81,Tryz.ntmps81
    go_wp2_with fail
    go_ret
    exact ⟨rfl,rfl⟩
  · rw [if_neg hb]
    have hb2:(b == 0)=false:=beq_eq_false_iff_ne.mpr hb
    go_enter Tryz.func81,Tryz.ntmps81
    go_wp2_with fail
    go_ret
    exact ⟨rfl,rfl⟩
theorem op11_calls (a b:Int) (w:World):Calls Tryz.prog 80 #[.int .i64 a,.int .i64 b] w fun e w'=>e=.returned (.int .i64 (Lx.quo a b))∧w=w':=by
  obtain ⟨q,hq⟩:∃ q,Lx.quo a b=q:=⟨_,rfl⟩
  have H:=mkA (quo_calls a b w)
  rw [hq] at H ⊢
  clear hq
  go_enter Tryz.func80,Tryz.ntmps80
  go_wp2_with (go_at_call 81;(refine H.out.mono ?_);rintro e w' ⟨rfl,rfl⟩)
  go_ret
  exact ⟨rfl,rfl⟩
theorem op12_calls (a b:Int) (w:World):Calls Tryz.prog 82 #[.int .i64 a,.int .i64 b] w fun e w'=>e=.returned (.int .i64 (Lx.w64 (Lx.w64 (a - Lx.w64 (Lx.quo a b * b)) - Lx.w64 (a * Lx.bit (b == 0)))))∧w=w':=by
  obtain ⟨q,hq⟩:∃ q,Lx.quo a b=q:=⟨_,rfl⟩
  obtain ⟨z,hz⟩:∃ z,Lx.bit (b == 0)=z:=⟨_,rfl⟩
  have H:=mkA (quo_calls a b w)
  have HB:=mkA (bit_calls (b == 0) w)
  rw [hq] at H
  rw [hz] at HB
  rw [hq,hz]
  unfold Lx.w64
  clear hq hz
  go_enter Tryz.func82,Tryz.ntmps82
  go_wp2_with (first | (go_at_call 81;(refine H.out.mono ?_);rintro e w' ⟨rfl,rfl⟩) | (go_at_call 69;(refine HB.out.mono ?_);rintro e w' ⟨rfl,rfl⟩))
  go_ret
  exact ⟨rfl,rfl⟩
end Go.Proofs.YtjnafjgonoficaaGreatDoor
