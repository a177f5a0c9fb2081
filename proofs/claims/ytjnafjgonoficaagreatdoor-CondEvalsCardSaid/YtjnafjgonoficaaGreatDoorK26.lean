/-
  What an expression comes to, in the program and in the reference: the same, by one plain function. Conditions: the text is short; the definitions lie in memory; the library's variables are as their text lays them.
  What CondEvals comes to: true. Conditions: the definitions lie in memory; the library's variables are as their text lays them.
  A slice of definitions that came in, opened: its texts lie in memory. Conditions: they are no longer than what memory holds.
-/
import Derived.Lib.ParseIntBTie
import Derived.Deep.SlicePairs
import Derived.Test.YtjnafjgonoficaaGreatDoorK25
import Derived.Test.YtjnafjgonoficaaGreatDoorK15
import Derived.Test.YtjnafjgonoficaaGreatDoorK19
namespace Go.Proofs.YtjnafjgonoficaaGreatDoor
open Go.RowKit Go.Proofs.YtjnafjgonoficaaGreatDoorW.PrintWords
set_option linter.unusedVariables false
set_option linter.unusedSimpArgs false
namespace Lx
/-- What a number is worth. -/
def numB (b : ByteArray) : Int × Bool := progNum b.data.toList
theorem worth_in (s : ByteArray) : InI (worth s) := by
  unfold worth
  split
  · rename_i v h
    have := Lib.parseIntB_bounds h
    unfold InI
    simp at this
    omega
  · unfold InI; omega
theorem valOf_in (defs : List (ByteArray × ByteArray)) (b : ByteArray) : InI (valOf defs b).1 := by
  unfold valOf
  split
  · unfold InI; dsimp only; omega
  · split
    · unfold InI; dsimp only; omega
    · exact worth_in _
/-- What an expression comes to. -/
noncomputable def exprV (defs : List (ByteArray × ByteArray)) (s : ByteArray) : Int × Bool := evR numB (valOf defs) (wd s 0)
end Lx
theorem env_any (w0 : World) (dv : Value) (og N : Nat) (hN : N ≤ 100000) (defs : List (ByteArray × ByteArray)) (hO : OpsAt w0 og) (hT : Lib.Utf8Tabs 6 7 w0) (hV : Lib.CaseVar 5 Lib.caseA w0) (hD : Dfs w0 dv defs) (hE : Errs w0) : EnvC Lx.numB (Lx.valOf defs) (fun t => Lx.OkKT N t.k t.t) w0 dv og := by
  refine ⟨hO, ?_, ?_⟩
  · intro t hP hk w hb
    refine (numbers_any t.t w (hP.num hk).2 (Nat.le_trans hP.size hN) (Utf8Tabs_below hT hb) (Lib.CaseVar_below hV hb)).mono ?_
    rintro e w' ⟨rfl, h2⟩
    exact ⟨rfl, grown_below (World.grownBy.refl _ _) h2⟩
  · intro t hP hk w hb
    exact value_calls w dv defs t.t (hD.below hb) (hE.below hb)
theorem eval_any (s : ByteArray) (defs : List (ByteArray × ByteArray)) (dv : Value) (w : World) (hs : s.size ≤ 20000) (hL : Laid w) (hD : Dfs w dv defs) :
    Calls Tryz.prog 25 #[.string s, dv] w fun e w' => e = .returned (.tuple #[.int .i64 (Lx.exprV defs s).1, .bool (Lx.exprV defs s).2]) ∧ Below w.heap.size w w' := by
  obtain ⟨m, hm⟩ := Lx.evR_spec Lx.numB (Lx.valOf defs) (Lx.wd s 0)
  have hD' := hD
  obtain ⟨DA, DC, rfl, -⟩ := hD'
  exact eval_from (num := Lx.numB) (val := Lx.valOf defs) (P := fun t => Lx.OkKT (s.size + 1) t.k t.t) s w m _ hs hL.maxLen hL.blanks (by have := hL.size; omega) (Lx.wd_ok s 0)
    (fun w0 og hb hO => env_any w0 _ og _ (by omega) defs hO (Utf8Tabs_below hL.tabs hb) (Lib.CaseVar_below hL.case hb) (hD.below hb) (hL.errs.below hb))
    (fun w0 og hE => (bin_all hE one_step m).1) hm
theorem envR_any (w0 : World) (A : Option Addr) (n c : Nat) (dv : Value) (L : List Lx.Tok) (N : Nat) (hN : N ≤ 100000) (hL : ∀ t ∈ L, Lx.OkKT N t.k t.t) (defs : List (ByteArray × ByteArray)) (hD : Dfs w0 dv defs) : EnvR Lx.numB (Lx.valOf defs) (fun t => Lx.OkKT N t.k t.t) w0 A n c dv L := by
  refine ⟨?_, ?_, hL, ?_⟩
  · intro t hP hk w hb
    have hne := (hP.num hk).1
    have hsz : 0 < t.t.size := by
      rw [← Lx.list_size]; exact List.length_pos_iff.2 hne
    refine (refnum_calls t.t w (Nat.le_trans hP.size hN) hsz).mono ?_
    rintro e w' ⟨rfl, h2⟩
    have h3 := Lx.num_same t.t.data.toList hne
    refine ⟨(Lx.refNum t.t.data.toList).1, ?_, fun h => h3.2 h, h2⟩
    rw [h3.1]; rfl
  · intro b S w h
    exact refval_calls w0 w A n c dv L S defs b h hD
  · intro t hP h
    exact hP.word (by rw [← ByteArray.toList_eq]; exact h)
theorem numB_in (b : ByteArray) : InI (Lx.numB b).1 := Lx.prog_in _
theorem refEval_any (s : ByteArray) (defs : List (ByteArray × ByteArray)) (dv : Value) (w : World) (hs : s.size ≤ 10000) (hD : Dfs w dv defs) :
    Calls Tryz.prog 26 #[.string s, dv] w fun e w' => e = .returned (.tuple #[.int .i64 (Lx.exprV defs s).1, .bool (Lx.exprV defs s).2]) ∧ Below w.heap.size w w' := by
  obtain ⟨m, hm⟩ := Lx.evR_spec Lx.numB (Lx.valOf defs) (Lx.wd s 0)
  have hD' := hD
  obtain ⟨DA, DC, rfl, -⟩ := hD'
  exact refEval_calls (num := Lx.numB) (val := Lx.valOf defs) (P := fun t => Lx.OkKT (s.size + 1) t.k t.t) w s DA _ DC m _ hs numB_in (Lx.valOf_in defs)
    (fun w1 A n c hb ht => envR_any w1 A n c _ _ _ (by omega) (Lx.wd_ok s 0) defs (hD.below hb)) hm
/-- The reference's eval, of words that lie in memory. -/
theorem refeval_any (w : World) (A : Option Addr) (n c : Nat) (dv : Value) (L : List Lx.Tok) (defs : List (ByteArray × ByteArray)) (N : Nat) (hN : N ≤ 100000) (hT : Tks w (.slice A n c) L) (hn : n ≤ 100000) (hL : ∀ t ∈ L, Lx.OkKT N t.k t.t) (hD : Dfs w dv defs) :
    Calls Tryz.prog 52 #[.slice A n c, dv] w fun e w' => e = .returned (.tuple #[.int .i64 (Lx.evR Lx.numB (Lx.valOf defs) L).1, .bool (Lx.evR Lx.numB (Lx.valOf defs) L).2]) ∧ Below w.heap.size w w' := by
  obtain ⟨m, hm⟩ := Lx.evR_spec Lx.numB (Lx.valOf defs) L
  have hD' := hD
  obtain ⟨DA, DC, rfl, -⟩ := hD'
  exact refeval_calls (num := Lx.numB) (val := Lx.valOf defs) (P := fun t => Lx.OkKT N t.k t.t) w A n c DA _ DC L m _ hT hn numB_in (Lx.valOf_in defs) (envR_any w A n c _ L N hN hL defs hD) hm
end Go.Proofs.YtjnafjgonoficaaGreatDoor
namespace Go.Proofs.YtjnafjgonoficaaGreatDoor
open Go.RowKit Go.Proofs.YtjnafjgonoficaaGreatDoorW.PrintWords
set_option linter.unusedVariables false
set_option linter.unusedSimpArgs false
namespace Lx
/-- How much definitions take. -/
def sumD : List (ByteArray × ByteArray) → Nat
  | [] => 0
  | d :: r => 1 + d.1.size + d.2.size + sumD r
theorem sumD_drop (l : List (ByteArray × ByteArray)) (i : Nat) (d : ByteArray × ByteArray) (h : l[i]? = some d) : sumD (l.drop i) = 1 + d.1.size + d.2.size + sumD (l.drop (i + 1)) := by
  obtain ⟨hi, rfl⟩ := List.getElem?_eq_some_iff.1 h
  rw [List.drop_eq_getElem_cons hi]; rfl
theorem sumD_len : ∀ l : List (ByteArray × ByteArray), l.length ≤ sumD l ∧ ∀ d ∈ l, d.1.size ≤ sumD l ∧ d.2.size ≤ sumD l
  | [] => ⟨Nat.le_refl _, fun d h => by cases h⟩
  | d :: r => by
    obtain ⟨h1, h2⟩ := sumD_len r
    unfold sumD
    refine ⟨by rw [List.length_cons]; omega, fun x hx => ?_⟩
    rcases List.mem_cons.1 hx with rfl | hx
    · omega
    · have := h2 x hx; omega
end Lx
/-- Definitions that came in lie in memory. -/
def DfsR (w : World) (v : Value) (L : List (ByteArray × ByteArray)) : Prop := ∃ A c, v = .slice A L.length c ∧ L.length ≤ c ∧ c ≤ maxLen ∧ (∀ d ∈ L, d.1.size ≤ 140737488351232 ∧ d.2.size ≤ 140737488351232) ∧ (L = [] ∨ ∃ g o, A = some ⟨g, o, none⟩ ∧ g < w.heap.size ∧
  ∀ (i : Nat) (d : ByteArray × ByteArray), L[i]? = some d → w.cell? ⟨g, o + i * 2, none⟩ = some (.string d.1) ∧ w.cell? ⟨g, o + i * 2 + 1, none⟩ = some (.string d.2))
theorem DfsR.dfs {w : World} {v : Value} {L : List (ByteArray × ByteArray)} (h : DfsR w v L) (hs : Lx.sumD L ≤ 2000) : Dfs w v L := by
  obtain ⟨A, c, e, h1, h2, h3, h4⟩ := h
  obtain ⟨k1, k2⟩ := Lx.sumD_len L
  exact ⟨A, c, e, h1, h2, by omega, fun d hd => by have := k2 d hd; omega, h4⟩
theorem DfsR.below {w w' : World} {v : Value} {L : List (ByteArray × ByteArray)} (h : DfsR w v L) (hb : Below w.heap.size w w') : DfsR w' v L := by
  obtain ⟨A, c, e, h1, h2, h3, h4⟩ := h
  refine ⟨A, c, e, h1, h2, h3, h4.imp id ?_⟩
  rintro ⟨g, o, e2, hg, h6⟩
  exact ⟨g, o, e2, Nat.lt_of_lt_of_le hg hb.size, fun i d hd => ⟨(hb.cell hg).trans (h6 i d hd).1, (hb.cell hg).trans (h6 i d hd).2⟩⟩
set_option maxRecDepth 100000 in
set_option maxHeartbeats 4000000 in
theorem many_calls (w : World) (dv : Value) (L : List (ByteArray × ByteArray)) (h : DfsR w dv L) :
    Calls Tryz.prog 24 #[dv] w fun e w' => e = .returned (.bool (decide (2000 < Lx.sumD L))) ∧ Below w.heap.size w w' := by
  obtain ⟨A, c, rfl, hc1, hc2, hsz, hA⟩ := h
  obtain ⟨n, hn⟩ : ∃ n, L.length = n := ⟨_, rfl⟩
  obtain ⟨R, hR⟩ : ∃ R, decide (2000 < Lx.sumD L) = R := ⟨_, rfl⟩
  unfold maxLen at hc2
  rw [hn] at hc1 ⊢
  rw [hR]
  have HN := Aside0.mk hn
  have HA := Aside0.mk hA
  have HSZ := Aside0.mk hsz
  have HR := Aside0.mk hR
  have hn63 : n ≤ 9223372036854775807 := by omega
  clear hn hA hsz hR
  go_enter Tryz.func24, Tryz.ntmps24
  go_wp2_with fail
  go_loopg [3, 4] n (fun kq v3 v4 W => ∃ i s : Nat, v3 = .int .i64 s ∧ v4 = .int .i64 i ∧ Aside0 (i ≤ n ∧ kq = n - i ∧ s + Lx.sumD (L.drop i) = Lx.sumD L) ∧ Aside0 (s ≤ 300000000000000) ∧ Aside0 (w.grownBy W none))
  case atStart => exact ⟨0, 0, rfl, rfl, ⟨by omega, rfl, by rw [List.drop_zero, Nat.zero_add]⟩, ⟨by omega⟩, ⟨World.grownBy.refl _ _⟩⟩
  case round =>
    obtain ⟨i, s, rfl, rfl, HI, HS, HW⟩ := hrel
    have hi := HI.out.1
    have hs3 := HS.out
    have hi0 : (0 : Int) ≤ (i : Int) := Int.natCast_nonneg _
    have hs0 : (0 : Int) ≤ (s : Int) := Int.natCast_nonneg _
    by_cases hle : s ≤ 2000
    · have hli : decide ((s : Int) ≤ 2000) = true := decide_eq_true (by omega)
      have hlt2 : decide ((2000 : Int) < (s : Int)) = false := decide_eq_false (by omega)
      by_cases hlt : i < n
      · obtain ⟨d, hd⟩ : ∃ d, L[i]? = some d := ⟨_, List.getElem?_eq_getElem (by have := HN.out; omega)⟩
        obtain ⟨g, o, rfl, hgl, hat⟩ := HA.out.resolve_left (fun e => by rw [e] at hd; simp at hd)
        obtain ⟨a0, a1⟩ := hat i d hd
        have a0 := HW.out.cell a0 (by simp)
        have a1 := HW.out.cell a1 (by simp)
        have hsz := HSZ.out d (List.mem_of_getElem? hd)
        have hsd := Lx.sumD_drop L i d hd
        obtain ⟨d1, d2⟩ := d
        dsimp only at a0 a1 hsz hsd
        obtain ⟨x, hx⟩ : ∃ x, d1.size = x := ⟨_, rfl⟩
        obtain ⟨y, hy⟩ : ∃ y, d2.size = y := ⟨_, rfl⟩
        rw [hx, hy] at hsd hsz
        have hx1 := hsz.1
        have hy1 := hsz.2
        have HSD := Aside0.mk hsd
        have w1 : IntKind.i64.wrap ((s : Int) + 1) = (s : Int) + 1 := IntWalk.i64_in _ (by omega)
        have w2 : IntKind.i64.wrap ((s : Int) + 1 + (x : Int)) = (s : Int) + 1 + (x : Int) := IntWalk.i64_in _ (by omega)
        have w3 : IntKind.i64.wrap ((s : Int) + 1 + (x : Int) + (y : Int)) = (s : Int) + 1 + (x : Int) + (y : Int) := IntWalk.i64_in _ (by omega)
        have hin : (i : Int) < (n : Int) := by omega
        clear hd hat hsz hsd
        go_wp2_with fail
        go_quiet (fail)
        go_wp2_with fail
        go_roundg (n - (i + 1))
        case measure => have := HI.out; omega
        case rel => exact ⟨i + 1, s + 1 + x + y, by go_num, by go_num, ⟨by omega, rfl, by rw [← HI.out.2.2, HSD.out]; omega⟩, ⟨by omega⟩, ⟨grown_drewN HW.out _⟩⟩
      · obtain rfl : i = n := by omega
        have he := HI.out.2.2
        rw [List.drop_eq_nil_of_le (by have := HN.out; omega)] at he
        have hr : R = false := by rw [← HR.out]; exact decide_eq_false (by have : Lx.sumD [] = 0 := rfl; omega)
        subst hr
        clear he
        go_wp2_with fail
        go_ret
        exact ⟨rfl, (Below.refl w.heap.size w).grown HW.out (Nat.le_refl _) (fun k hk => by cases hk)⟩
    · have hli : decide ((s : Int) ≤ 2000) = false := decide_eq_false (by omega)
      have hlt2 : decide ((2000 : Int) < (s : Int)) = true := decide_eq_true (by omega)
      have hr : R = true := by rw [← HR.out]; exact decide_eq_true (by have := HI.out; omega)
      subst hr
      by_cases hlt : i < n
      all_goals
        go_wp2_with fail
        go_ret
        exact ⟨rfl, (Below.refl w.heap.size w).grown HW.out (Nat.le_refl _) (fun k hk => by cases hk)⟩
set_option maxRecDepth 100000 in
set_option maxHeartbeats 4000000 in
theorem evals_calls (s : ByteArray) (dv : Value) (L : List (ByteArray × ByteArray)) (w : World) (hD : DfsR w dv L) (hL : Laid w) (hAW : AwC) : Calls Tryz.prog 5 #[.string s, dv] w fun e w' => e = .returned (.bool true) ∧ Below w.heap.size w w' := by
  have HM := Aside0.mk (many_calls w dv L hD)
  by_cases hs : 1000 < s.size
  · have hd : decide ((1000 : Int) < (s.size : Int)) = true := decide_eq_true (by omega)
    obtain ⟨A, c, rfl, -⟩ := hD
    clear hs
    go_enter Tryz.func5, Tryz.ntmps5
    go_wp2_with fail
    go_ret
    exact ⟨rfl, Below.refl _ _⟩
  · have hd : decide ((1000 : Int) < (s.size : Int)) = false := decide_eq_false (by omega)
    by_cases hm : 2000 < Lx.sumD L
    · rw [decide_eq_true hm] at HM
      obtain ⟨A, c, rfl, -⟩ := hD
      clear hs hm
      go_enter Tryz.func5, Tryz.ntmps5
      go_wp2_with (first | (go_at_call 24; (refine HM.out.mono ?_); rintro e w1 ⟨rfl, hb⟩; have HB1 := Aside0.mk hb; clear hb))
      go_ret
      exact ⟨rfl, HB1.out⟩
    · rw [decide_eq_false hm] at HM
      have hD2 := hD.dfs (by omega)
      have hE : ∀ w1, Below w.heap.size w w1 → Calls Tryz.prog 25 #[.string s, dv] w1 fun e w' => e = .returned (.tuple #[.int .i64 (Lx.exprV L s).1, .bool (Lx.exprV L s).2]) ∧ Below w1.heap.size w1 w' := fun w1 hb => eval_any s L dv w1 (by omega) (hL.below hb) (hD2.below hb)
      have hF : ∀ w1, Below w.heap.size w w1 → Calls Tryz.prog 26 #[.string s, dv] w1 fun e w' => e = .returned (.tuple #[.int .i64 (Lx.exprV L s).1, .bool (Lx.exprV L s).2]) ∧ Below w1.heap.size w1 w' := fun w1 hb => refEval_any s L dv w1 (by omega) (hD2.below hb)
      obtain ⟨V, hV⟩ : ∃ V, Lx.exprV L s = V := ⟨_, rfl⟩
      rw [hV] at hE hF
      have HE := Aside0.mk hE
      have HF := Aside0.mk hF
      have HL := Aside0.mk hL
      obtain ⟨A, c, rfl, -⟩ := hD
      obtain ⟨v1, v2⟩ := V
      dsimp only at HE HF
      clear hs hm hE hF hL hD2 hV
      go_enter Tryz.func5, Tryz.ntmps5
      go_wp2_with (first | (go_at_call 24; (refine HM.out.mono ?_); rintro e w1 ⟨rfl, hb⟩; have HB1 := Aside0.mk hb; clear hb) | (go_at_call 25; (refine (HE.out w1 HB1.out).mono ?_); rintro e w2 ⟨rfl, hb⟩; have HB2 := Aside0.mk (HB1.out.trans (hb.mono HB1.out.size)); clear hb) | (go_at_call 26; (refine (HF.out w2 HB2.out).mono ?_); rintro e w3 ⟨rfl, hb⟩; have HB3 := Aside0.mk (HB2.out.trans (hb.mono HB2.out.size)); clear hb) | (go_at_call 19; (refine (hAW w3 (HL.out.below HB3.out)).mono ?_); rintro e w4 ⟨rfl, hb⟩; have HB4 := Aside0.mk (HB3.out.trans (hb.mono HB3.out.size)); clear hb))
      go_ret
      exact ⟨rfl, HB4.out⟩
end Go.Proofs.YtjnafjgonoficaaGreatDoor
namespace Go.Proofs.YtjnafjgonoficaaGreatDoor
open Go.ChangeShapes Go.WideShapes Go.ChangeAt Go.RowKit Go.WideMaps Go.WideElems Go.Deep
set_option linter.unusedVariables false
set_option linter.unusedSimpArgs false
theorem cells9 : Tryz.prog.cellsOf 9 = 1 := by kernel_rfl
theorem cells71 : Tryz.prog.cellsOf 71 = 2 := by kernel_rfl
theorem weights_mem {H : Type} (e : TypeId) (n : Nat) : ∀ (l : List (DataW H)) (d : DataW H), d ∈ l → n ∈ d.weights Tryz.prog e → n ∈ DataW.weightsAll Tryz.prog e l
  | [], d, h, _ => by cases h
  | x :: r, d, h, hn => by
    rw [DataW.weightsAll, List.mem_append]
    rcases List.mem_cons.1 h with rfl | h
    · exact .inl hn
    · exact .inr (weights_mem e n r d h hn)
set_option maxRecDepth 100000 in
theorem pairs_arg {H : Type} {enc : TypeId × Value → H} {W : World} {base : Nat} {v : Value} {d : DataW H} {ps : List MemPlace} (hv : Value.okWide Tryz.prog W .any base 49 v) (h : DataW.Trod enc Tryz.prog W 0 (fun _ => true) true 49 v d ps)
    (hsz : ∀ n ∈ d.weights Tryz.prog 49, n ≤ reachBytes) : ∃ L, DfsR W v L := by
  obtain ⟨a, len, cap, rfl⟩ := okWide_slice Tryz.underlying49 hv
  obtain ⟨fuel, hf⟩ := h
  rcases open_slice_pairs Tryz.underlying49 Tryz.underlying71 cells71 rfl rfl cells9 cells9 hf with ⟨e, -⟩ | ⟨a', len', cap', m, n, V0, V1, D0, D1, P0, P1, e, -, hlc, hcm, hmm, hx, hi⟩
  · have e := List.head_eq_of_cons_eq e
    simp only [Value.slice.injEq] at e
    obtain ⟨rfl, rfl, rfl⟩ := e
    exact ⟨[], none, 0, rfl, Nat.le_refl _, Nat.zero_le _, (fun d hd => by cases hd), .inl rfl⟩
  · have e := List.head_eq_of_cons_eq e
    simp only [Value.slice.injEq] at e
    obtain ⟨rfl, rfl, rfl⟩ := e
    rw [if_pos rfl] at hmm
    subst hmm
    simp only [Prod.mk.injEq] at hx
    have hdx := hx.1
    have key : ∀ i, i < len → ∃ s0 s1 : ByteArray, V0 i = .string s0 ∧ V1 i = .string s1 ∧ s0.size ≤ 140737488351232 ∧ s1.size ≤ 140737488351232 := by
      intro i hil
      obtain ⟨-, -, t0, t1⟩ := hi i (by omega)
      obtain ⟨s0, e0, f0, -⟩ := DataW.trod_string Tryz.underlying9 t0
      obtain ⟨s1, e1, f1, -⟩ := DataW.trod_string Tryz.underlying9 t1
      simp only [List.cons.injEq, and_true] at e0 e1
      simp only [Prod.mk.injEq] at f0 f1
      refine ⟨s0, s1, e0, e1, ?_, ?_⟩
      · have hm : s0.data.toList.length ∈ d.weights Tryz.prog 49 := by
          rw [hdx]
          rw [DataW.weights, Tryz.underlying49]
          refine List.mem_cons_of_mem _ (List.mem_append_left _ (weights_mem 71 _ _ (.agg [D0 i, D1 i]) (List.mem_map.2 ⟨i, List.mem_range.2 hil, rfl⟩) ?_))
          rw [DataW.weights, Tryz.underlying71]
          show _ ∈ DataW.weightsEach Tryz.prog [9, 9] [D0 i, D1 i]
          rw [f0.1, f1.1]
          simp [DataW.weightsEach, DataW.weights]
        have := hsz _ hm
        rw [Array.length_toList] at this
        unfold reachBytes at this
        exact this
      · have hm : s1.data.toList.length ∈ d.weights Tryz.prog 49 := by
          rw [hdx]
          rw [DataW.weights, Tryz.underlying49]
          refine List.mem_cons_of_mem _ (List.mem_append_left _ (weights_mem 71 _ _ (.agg [D0 i, D1 i]) (List.mem_map.2 ⟨i, List.mem_range.2 hil, rfl⟩) ?_))
          rw [DataW.weights, Tryz.underlying71]
          show _ ∈ DataW.weightsEach Tryz.prog [9, 9] [D0 i, D1 i]
          rw [f0.1, f1.1]
          simp [DataW.weightsEach, DataW.weights]
        have := hsz _ hm
        rw [Array.length_toList] at this
        unfold reachBytes at this
        exact this
    have strs : ∀ v : Value, ∃ s : ByteArray, ∀ t, v = .string t → s = t := by
      intro v
      by_cases hv : ∃ t, v = .string t
      · obtain ⟨t, rfl⟩ := hv
        exact ⟨t, fun u hu => by cases hu; rfl⟩
      · exact ⟨⟨#[]⟩, fun t ht => absurd ⟨t, ht⟩ hv⟩
    have hS0 : ∃ S0 : Nat → ByteArray, ∀ i, i < len → V0 i = .string (S0 i) ∧ (S0 i).size ≤ 140737488351232 := by
      refine ⟨fun i => Classical.choose (strs (V0 i)), fun i hil => ?_⟩
      obtain ⟨s0, s1, e0, -, h0, -⟩ := key i hil
      have := Classical.choose_spec (strs (V0 i)) s0 e0
      dsimp only
      rw [this]
      exact ⟨e0, h0⟩
    have hS1 : ∃ S1 : Nat → ByteArray, ∀ i, i < len → V1 i = .string (S1 i) ∧ (S1 i).size ≤ 140737488351232 := by
      refine ⟨fun i => Classical.choose (strs (V1 i)), fun i hil => ?_⟩
      obtain ⟨s0, s1, -, e1, -, h1⟩ := key i hil
      have := Classical.choose_spec (strs (V1 i)) s1 e1
      dsimp only
      rw [this]
      exact ⟨e1, h1⟩
    obtain ⟨S0, hS0⟩ := hS0
    obtain ⟨S1, hS1⟩ := hS1
    refine ⟨(List.range len).map fun i => (S0 i, S1 i), some a', m, by simp, by simp; exact hlc, hcm, ?_, ?_⟩
    · intro x hx
      obtain ⟨i, hir, rfl⟩ := List.mem_map.1 hx
      exact ⟨(hS0 i (List.mem_range.1 hir)).2, (hS1 i (List.mem_range.1 hir)).2⟩
    · by_cases h0 : len = 0
      · left; subst h0; rfl
      · right
        obtain ⟨g, o, sp⟩ := a'
        have hc := (hi 0 (by omega)).1
        have hsp : sp = none := by
          have := hc
          unfold World.cell? at this
          rw [show (Addr.add ⟨g, o, sp⟩ (0 * 2)) = ⟨g, o, sp⟩ from rfl] at this
          dsimp only at this
          cases hb : W.heap[g]? with
          | none => rw [hb] at this; cases this
          | some x =>
            rw [hb] at this
            cases sp with
            | none => rfl
            | some y => cases x <;> simp at this
        subst hsp
        refine ⟨g, o, rfl, cell_lt (o := o) hc, fun i x hx => ?_⟩
        rw [List.getElem?_map] at hx
        obtain ⟨j, hj, rfl⟩ := Option.map_eq_some_iff.1 hx
        have hil : i < len := by
          have := (List.getElem?_eq_some_iff.1 hj).1
          simpa using this
        have hji : j = i := by
          rw [List.getElem?_range hil] at hj
          exact (Option.some.inj hj).symm
        subst hji
        obtain ⟨c0, c1, -, -⟩ := hi j (by omega)
        rw [add_none] at c0 c1
        rw [(hS0 j hil).1] at c0
        rw [(hS1 j hil).1] at c1
        exact ⟨c0, by rw [Nat.add_assoc]; exact c1⟩
end Go.Proofs.YtjnafjgonoficaaGreatDoor
