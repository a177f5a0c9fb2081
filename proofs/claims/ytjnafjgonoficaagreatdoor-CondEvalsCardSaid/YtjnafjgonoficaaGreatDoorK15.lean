/-
  What the walks ask of the library's variables, in one word. Conditions: none.
  The constants of the laws' own check 'awake', reckoned by the kernel: the tokens, groups, places and view of its text, and its expression's value. No program in sight. Conditions: none.
  What the numbers and names of the laws' own check 'awake' come to. Conditions: the library's variables are as their text lays them; the definitions lie in memory.
  What the laws' own check 'awake' comes to: true. Conditions: the library's variables are as their text lays them.
-/
import Derived.Test.YtjnafjgonoficaaGreatDoorK13
import Derived.Test.YtjnafjgonoficaaGreatDoorK07
import Derived.Test.YtjnafjgonoficaaGreatDoorK12
import Derived.Test.YtjnafjgonoficaaGreatDoorK14
import Derived.Test.YtjnafjgonoficaaGreatDoorK17
namespace Go.Proofs.YtjnafjgonoficaaGreatDoor
open Go.RowKit Go.Proofs.YtjnafjgonoficaaGreatDoorW.PrintWords
set_option linter.unusedVariables false
set_option linter.unusedSimpArgs false
/-- The library's variables are as their text lays them. -/
structure Laid (w : World) : Prop where
  maxLen : MaxLen w
  blanks : Blanks w
  errs : Errs w
  tabs : Lib.Utf8Tabs 6 7 w
  case : Lib.CaseVar 5 Lib.caseA w
  size : 8 ≤ w.heap.size
theorem Laid.below {w w' : World} (h : Laid w) (hb : Below w.heap.size w w') : Laid w' :=
  ⟨h.maxLen.belowN hb (by have := h.size; omega), h.blanks.below hb (by have := h.size; omega), h.errs.below hb, Utf8Tabs_below h.tabs hb, Lib.CaseVar_below h.case hb, Nat.le_trans h.size hb.size⟩
theorem below_drawn {w w' : World} (h : Drawn0 w w') : Below w.heap.size w w' := by
  obtain ⟨n, rfl⟩ := h.out
  exact ⟨rfl, rfl, rfl, Nat.le_refl _, fun _ _ => rfl⟩
/-- What the laws' own check comes to. -/
def AwC : Prop := ∀ W : World, Laid W → Calls Tryz.prog 19 #[] W fun e w' => e = .returned (.bool true) ∧ Below W.heap.size W w'
end Go.Proofs.YtjnafjgonoficaaGreatDoor
namespace Go.Proofs.YtjnafjgonoficaaGreatDoor
open Go.RowKit Go.Proofs.YtjnafjgonoficaaGreatDoorW.PrintWords
set_option linter.unusedVariables false
set_option linter.unusedSimpArgs false
namespace Lx
def awText : ByteArray := ⟨#[35, 105, 102, 32, 65, 10, 120, 10, 35, 101, 108, 115, 101, 10, 121, 10, 35, 101, 110, 100, 105, 102, 10]⟩
def awL : List Tok := scan awText
def awGs : List G := (groups (awL.map kindOf)).1
def awOuts : List (List (Int × Int)) := (places awGs awL.length).getD []
theorem aw_len : awL.length = 6 := by decide +kernel
theorem aw_err : (groups (awL.map kindOf)).2.1 = 0 := by decide +kernel
theorem aw_gs : awGs.length = 1 := by decide +kernel
theorem aw_some : (places awGs awL.length).isSome = true := by decide +kernel
theorem aw_places : places awGs awL.length = some awOuts := by
  have h := aw_some
  unfold awOuts
  obtain ⟨o, ho⟩ := Option.isSome_iff_exists.1 h
  rw [ho]; rfl
theorem aw_outs : awOuts.length = 6 := by decide +kernel
theorem aw_view : viewL (List.replicate 1 0) awL awOuts 0 = [1, 5] := by decide +kernel
theorem aw_short : awL.all (fun t => decide (t.t.size ≤ 20000)) = true := by decide +kernel
theorem aw_br : awGs.all (fun g => decide (0 < g.br)) = true := by decide +kernel
theorem aw_in : awOuts.all (fun o => decide (o.length ≤ 1000000) && o.all fun p => decide (0 ≤ p.1) && decide (p.1 < 1)) = true := by decide +kernel
theorem aw_fits : Fits (List.replicate awGs.length 0) awGs awOuts := by
  refine ⟨by simp, ?_, ?_⟩
  · intro i x g hx hg
    have h1 := List.all_eq_true.1 aw_br g (List.mem_of_getElem? hg)
    have h2 : x = 0 := by
      have := List.mem_of_getElem? hx
      exact (List.mem_replicate.1 this).2
    have h3 := of_decide_eq_true h1
    omega
  · intro o ho
    have h1 := List.all_eq_true.1 aw_in o ho
    rw [Bool.and_eq_true] at h1
    refine ⟨of_decide_eq_true h1.1, fun p hp => ?_⟩
    have h2 := List.all_eq_true.1 h1.2 p hp
    rw [Bool.and_eq_true] at h2
    rw [List.length_replicate, aw_gs]
    have h3 := of_decide_eq_true h2.1
    have h4 := of_decide_eq_true h2.2
    omega
theorem aw_small : Small awGs := groups_small 0 (awL.map kindOf) (by rw [List.length_map, aw_len]; omega)
/-- The expression, its numbers, its definitions. -/
def awExpr : ByteArray := ⟨#[49, 32, 43, 32, 65, 32, 42, 32, 50]⟩
def awNum (b : ByteArray) : Int × Bool := if (b.data.toList == [49]) = true then (1, true) else (2, true)
def awDefs : List (ByteArray × ByteArray) := [(⟨#[65]⟩, ⟨#[51]⟩)]
theorem aw_eval : evalF awNum (valOf awDefs) 60 (wd awExpr 0) = some (7, true) := by decide +kernel
/-- Its words: a number is '1' or '2'. -/
theorem aw_words : (wd awExpr 0).all (fun t => !(t.k == 3) || (t.t.data.toList == [49] || t.t.data.toList == [50])) = true := by decide +kernel
end Lx
end Go.Proofs.YtjnafjgonoficaaGreatDoor
namespace Go.Proofs.YtjnafjgonoficaaGreatDoor
open Go.RowKit Go.Proofs.YtjnafjgonoficaaGreatDoorW.PrintWords
set_option linter.unusedVariables false
set_option linter.unusedSimpArgs false
/-- What is known of a word of the check's expression. -/
def AwP (t : Lx.Tok) : Prop := t.k = 3 → t.t.data.toList = [49] ∨ t.t.data.toList = [50]
theorem aw_P : ∀ t ∈ Lx.wd Lx.awExpr 0, AwP t := by
  intro t ht hk
  have h := List.all_eq_true.1 Lx.aw_words t ht
  rw [hk] at h
  simpa using h
theorem bytes_of {b : ByteArray} {l : List UInt8} (h : b.data.toList = l) : b = ⟨l.toArray⟩ := by
  cases b with
  | mk d => subst h; simp
theorem env_aw (w0 : World) (dv : Value) (og : Nat) (hO : OpsAt w0 og) (hT : Lib.Utf8Tabs 6 7 w0) (hV : Lib.CaseVar 5 Lib.caseA w0) (hD : Dfs w0 dv Lx.awDefs) (hE : Errs w0) : EnvC Lx.awNum (Lx.valOf Lx.awDefs) AwP w0 dv og := by
  refine ⟨hO, ?_, ?_⟩
  · intro t hP hk w hb
    rcases hP hk with h | h
    · have e := bytes_of h
      rw [e]
      refine (number_one w (Utf8Tabs_below hT hb) (Lib.CaseVar_below hV hb)).mono ?_
      rintro e w' ⟨rfl, h2⟩
      exact ⟨rfl, grown_below (World.grownBy.refl _ _) h2⟩
    · have e := bytes_of h
      rw [e]
      refine (number_two w (Utf8Tabs_below hT hb) (Lib.CaseVar_below hV hb)).mono ?_
      rintro e w' ⟨rfl, h2⟩
      exact ⟨rfl, grown_below (World.grownBy.refl _ _) h2⟩
  · intro t hP hk w hb
    exact value_calls w dv Lx.awDefs t.t (hD.below hb) (hE.below hb)
end Go.Proofs.YtjnafjgonoficaaGreatDoor
namespace Go.Proofs.YtjnafjgonoficaaGreatDoor
open Go.RowKit Go.Proofs.YtjnafjgonoficaaGreatDoorW.PrintWords
set_option linter.unusedVariables false
set_option linter.unusedSimpArgs false
theorem aw_scan (w : World) : Calls Tryz.prog 39 #[.string ⟨#[35, 105, 102, 32, 65, 10, 120, 10, 35, 101, 108, 115, 101, 10, 121, 10, 35, 101, 110, 100, 105, 102, 10]⟩] w fun e w' => ∃ v, e = .returned (.tuple #[v, .int .i64 0]) ∧ Tks w' v Lx.awL ∧ Below w.heap.size w w' := by
  refine (scanr_calls Lx.awText w (by decide)).mono ?_
  rintro e w' ⟨v, h1, h2, h3⟩
  exact ⟨v, h1, own_tks h2, h3⟩
theorem aw_first (v : Value) (W : World) (hT : Tks W v Lx.awL) (hW : Laid W) : Calls Tryz.prog 22 #[v] W fun e w' => ∃ rv, e = .returned (.tuple #[rv, .int .i64 0]) ∧ Ints w' rv [1, 5] ∧ Below W.heap.size W w' := by
  have h5 := hW.size
  refine (first_calls v Lx.awL W hT (by rw [Lx.aw_len]; omega) (fun t ht => of_decide_eq_true (List.all_eq_true.1 Lx.aw_short t ht)) hW.maxLen hW.blanks (by omega) Lx.aw_err Lx.awOuts Lx.aw_places Lx.aw_small (by rw [Lx.aw_outs, Lx.aw_len]) Lx.aw_fits).mono ?_
  rintro e w' ⟨rv, h1, h2, h3⟩
  refine ⟨rv, h1, ?_, h3⟩
  have h4 := own_ints h2
  rw [show (Lx.groups (Lx.awL.map Lx.kindOf)).1 = Lx.awGs from rfl, Lx.aw_gs, Lx.aw_view] at h4
  exact h4
theorem aw_dfs (W : World) : Dfs (W.alloc (.cells #[.string ⟨#[65]⟩, .string ⟨#[51]⟩] 71)) (.slice (some ⟨W.heap.size, 0, none⟩) 1 1) Lx.awDefs := by
  refine ⟨_, 1, rfl, Nat.le_refl _, by decide, by decide, ?_, .inr ⟨W.heap.size, 0, rfl, by simp, ?_⟩⟩
  · intro d hd
    rw [List.mem_singleton.1 hd]
    decide
  · intro i d hd
    cases i with
    | zero =>
      have hd := (Option.some.inj hd).symm
      subst hd
      exact ⟨by rw [blk_cell (blk_new W _)]; rfl, by rw [blk_cell (blk_new W _)]; rfl⟩
    | succ i => simp [Lx.awDefs] at hd
theorem aw_evals (W : World) (hW : Laid W) : Calls Tryz.prog 25 #[.string ⟨#[49, 32, 43, 32, 65, 32, 42, 32, 50]⟩, .slice (some ⟨W.heap.size, 0, none⟩) 1 1] (W.alloc (.cells #[.string ⟨#[65]⟩, .string ⟨#[51]⟩] 71)) fun e w' => e = .returned (.tuple #[.int .i64 7, .bool true]) ∧ Below W.heap.size W w' := by
  have hb1 : Below W.heap.size W (W.alloc (.cells #[.string ⟨#[65]⟩, .string ⟨#[51]⟩] 71)) := (Below.refl _ _).alloc (Nat.le_refl _) _
  have hL := hW.below hb1
  have hD := aw_dfs W
  have h8 := hL.size
  generalize (W.alloc (.cells #[.string ⟨#[65]⟩, .string ⟨#[51]⟩] 71)) = W1 at hb1 hL hD h8 ⊢
  refine (eval_from (num := Lx.awNum) (val := Lx.valOf Lx.awDefs) (P := AwP) Lx.awExpr W1 60 (7, true) (by decide) hL.maxLen hL.blanks (by omega) aw_P
    (fun w0 og hb hO => env_aw w0 _ og hO (Utf8Tabs_below hL.tabs hb) (Lib.CaseVar_below hL.case hb) (hD.below hb) (hL.errs.below hb))
    (fun w0 og hE => (bin_all hE one_step 60).1) Lx.aw_eval).mono ?_
  rintro e w' ⟨h1, h2⟩
  exact ⟨h1, hb1.trans (h2.mono hb1.size)⟩
theorem aw_ints (W : World) (rv : Value) (h : Ints W rv [1, 5]) : Calls Tryz.prog 18 #[rv, .slice (some ⟨W.heap.size, 0, none⟩) 2 2] (W.alloc (.cells #[.int .i64 1, .int .i64 5] 3)) fun e w' => e = .returned (.bool true) ∧ Drawn0 (W.alloc (.cells #[.int .i64 1, .int .i64 5] 3)) w' := by
  refine eqInts_calls _ _ [1, 5] _ (by decide) (h.below ((Below.refl _ _).alloc (Nat.le_refl _) _)) ?_
  exact own_ints (base := W.heap.size) (World.ownsRow_lit W #[.int .i64 1, .int .i64 5] 2 (Nat.le_refl _) (by unfold maxLen; omega) rfl)
set_option maxRecDepth 100000 in
set_option maxHeartbeats 4000000 in
/-- **The check says true.** -/
theorem aw_calls : AwC := by
  intro w h
  have HL := Aside0.mk h
  have HSC := Aside0.mk (aw_scan w)
  have HFC := Aside0.mk aw_first
  have HEC := Aside0.mk aw_evals
  have HIC := Aside0.mk aw_ints
  clear h
  go_enter Tryz.func19, Tryz.ntmps19
  go_wp2_with (first | (go_at_call 39; (with_reducible refine HSC.out.mono ?_); rintro e w1 ⟨v1, rfl, ht, hb⟩; have HT1 := Aside0.mk ht; have HB1 := Aside0.mk hb; clear ht hb) | (go_at_call 22; (refine (HFC.out _ w1 HT1.out (HL.out.below HB1.out)).mono ?_); rintro e w2 ⟨rv, rfl, hi, hb⟩; have HB2 := Aside0.mk (HB1.out.trans (hb.mono HB1.out.size)); have HI2 := Aside0.mk hi; clear hi hb) | (go_at_call 25; (refine (HEC.out w2 (HL.out.below HB2.out)).mono ?_); rintro e w3 ⟨rfl, hb⟩; have HI3 := Aside0.mk (HI2.out.below hb); have HB3 := Aside0.mk (HB2.out.trans (hb.mono HB2.out.size)); clear hb) | (go_at_call 18; (refine (HIC.out w3 rv HI3.out).mono ?_); rintro e w4 ⟨rfl, hd⟩; have HB4 := Aside0.mk ((HB3.out.alloc HB3.out.size _).trans ((below_drawn hd).mono (Nat.le_trans HB3.out.size (by simp)))); clear hd))
  go_ret
  exact ⟨rfl, HB4.out⟩
end Go.Proofs.YtjnafjgonoficaaGreatDoor
