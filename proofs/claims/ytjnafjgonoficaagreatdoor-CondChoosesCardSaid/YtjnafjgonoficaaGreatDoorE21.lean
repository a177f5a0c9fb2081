/-
  What CondEvals comes to: true. Conditions: the definitions lie in memory; the library's variables are as their text lays them.
  What CondLines comes to: true. Conditions: the library's variables are as their text lays them.
  What CondChooses comes to: true. Conditions: the definitions lie in memory; the library's variables are as their text lays them.
  A slice of ints that came in, opened: its numbers lie in memory. Conditions: none.
  A slice of definitions that came in, opened: its texts lie in memory. Conditions: they are no longer than what memory holds.
-/
import Derived.Deep.SlicePairs
import Derived.Test.YtjnafjgonoficaaGreatDoorE18
import Derived.Test.YtjnafjgonoficaaGreatDoorE07
import Derived.Test.YtjnafjgonoficaaGreatDoorE20
import Derived.Test.YtjnafjgonoficaaGreatDoorE08
import Derived.Test.YtjnafjgonoficaaGreatDoorE06
import Derived.Test.YtjnafjgonoficaaGreatDoorE19
namespace Go.Proofs.YtjnafjgonoficaaGreatDoor
open Go.RowKit Go.Proofs.YtjnafjgonoficaaGreatDoorW.PrintWords
set_option linter.unusedVariables false
set_option linter.unusedSimpArgs false
namespace Lx
def sumD : List (ByteArray × ByteArray) → Nat
  | [] => 0
  | d :: r => 1 + d.1.size + d.2.size + sumD r
theorem sumD_drop (l : List (ByteArray × ByteArray)) (i : Nat) (d : ByteArray × ByteArray) (h : l[i]? = some d) : sumD (l.drop i) = 1 + d.1.size + d.2.size + sumD (l.drop (i + 1)) := by
  obtain ⟨hi, rfl⟩ := List.getElem?_eq_some_iff.1 h
  rw [List.drop_eq_getElem_cons hi]; rfl
theorem sumD_len : ∀ l : List (ByteArray × ByteArray), l.length ≤ sumD l ∧ ∀ d ∈ l, d.1.size ≤ sumD l ∧ d.2.size ≤ sumD l
  | [] => ⟨Nat.le_refl _, fun d h => by cases h⟩
  | d :: r => by
    obtain ⟨h1, h2⟩ := sumD_len r
    unfold sumD
    refine ⟨by rw [List.length_cons]; omega, fun x hx => ?_⟩
    rcases List.mem_cons.1 hx with rfl | hx
    · omega
    · have := h2 x hx; omega
end Lx
def DfsR (w : World) (v : Value) (L : List (ByteArray × ByteArray)) : Prop := ∃ A c, v = .slice A L.length c ∧ L.length ≤ c ∧ c ≤ maxLen ∧ (∀ d ∈ L, d.1.size ≤ 140737488351232 ∧ d.2.size ≤ 140737488351232) ∧ (L = [] ∨ ∃ g o, A = some ⟨g, o, none⟩ ∧ g < w.heap.size ∧
  ∀ (i : Nat) (d : ByteArray × ByteArray), L[i]? = some d → w.cell? ⟨g, o + i * 2, none⟩ = some (.string d.1) ∧ w.cell? ⟨g, o + i * 2 + 1, none⟩ = some (.string d.2))
theorem DfsR.dfs {w : World} {v : Value} {L : List (ByteArray × ByteArray)} (h : DfsR w v L) (hs : Lx.sumD L ≤ 2000) : Dfs w v L := by
  obtain ⟨A, c, e, h1, h2, h3, h4⟩ := h
  obtain ⟨k1, k2⟩ := Lx.sumD_len L
  exact ⟨A, c, e, h1, h2, by omega, fun d hd => by have := k2 d hd; omega, h4⟩
theorem DfsR.below {w w' : World} {v : Value} {L : List (ByteArray × ByteArray)} (h : DfsR w v L) (hb : Below w.heap.size w w') : DfsR w' v L := by
  obtain ⟨A, c, e, h1, h2, h3, h4⟩ := h
  refine ⟨A, c, e, h1, h2, h3, h4.imp id ?_⟩
  rintro ⟨g, o, e2, hg, h6⟩
  exact ⟨g, o, e2, Nat.lt_of_lt_of_le hg hb.size, fun i d hd => ⟨(hb.cell hg).trans (h6 i d hd).1, (hb.cell hg).trans (h6 i d hd).2⟩⟩
set_option maxRecDepth 100000 in
set_option maxHeartbeats 4000000 in
theorem many_calls (w : World) (dv : Value) (L : List (ByteArray × ByteArray)) (h : DfsR w dv L) :
    Calls Tryz.prog 24 #[dv] w fun e w' => e = .returned (.bool (decide (2000 < Lx.sumD L))) ∧ Below w.heap.size w w' := by
  obtain ⟨A, c, rfl, hc1, hc2, hsz, hA⟩ := h
  obtain ⟨n, hn⟩ : ∃ n, L.length = n := ⟨_, rfl⟩
  obtain ⟨R, hR⟩ : ∃ R, decide (2000 < Lx.sumD L) = R := ⟨_, rfl⟩
  unfold maxLen at hc2
  rw [hn] at hc1 ⊢
  rw [hR]
  have HN := Aside0.mk hn
  have HA := Aside0.mk hA
  have HSZ := Aside0.mk hsz
  have HR := Aside0.mk hR
  have hn63 : n ≤ 9223372036854775807 := by omega
  clear hn hA hsz hR
  go_enter Tryz.func24, Tryz.ntmps24
  go_wp2_with fail
  go_loopg [3, 4] n (fun kq v3 v4 W => ∃ i s : Nat, v3 = .int .i64 s ∧ v4 = .int .i64 i ∧ Aside0 (i ≤ n ∧ kq = n - i ∧ s + Lx.sumD (L.drop i) = Lx.sumD L) ∧ Aside0 (s ≤ 300000000000000) ∧ Aside0 (w.grownBy W none))
  case atStart => exact ⟨0, 0, rfl, rfl, ⟨by omega, rfl, by rw [List.drop_zero, Nat.zero_add]⟩, ⟨by omega⟩, ⟨World.grownBy.refl _ _⟩⟩
  case round =>
    obtain ⟨i, s, rfl, rfl, HI, HS, HW⟩ := hrel
    have hi := HI.out.1
    have hs3 := HS.out
    have hi0 : (0 : Int) ≤ (i : Int) := Int.natCast_nonneg _
    have hs0 : (0 : Int) ≤ (s : Int) := Int.natCast_nonneg _
    by_cases hle : s ≤ 2000
    · have hli : decide ((s : Int) ≤ 2000) = true := decide_eq_true (by omega)
      have hlt2 : decide ((2000 : Int) < (s : Int)) = false := decide_eq_false (by omega)
      by_cases hlt : i < n
      · obtain ⟨d, hd⟩ : ∃ d, L[i]? = some d := ⟨_, List.getElem?_eq_getElem (by have := HN.out; omega)⟩
        obtain ⟨g, o, rfl, hgl, hat⟩ := HA.out.resolve_left (fun e => by rw [e] at hd; simp at hd)
        obtain ⟨a0, a1⟩ := hat i d hd
        have a0 := HW.out.cell a0 (by simp)
        have a1 := HW.out.cell a1 (by simp)
        have hsz := HSZ.out d (List.mem_of_getElem? hd)
        have hsd := Lx.sumD_drop L i d hd
        obtain ⟨d1, d2⟩ := d
        dsimp only at a0 a1 hsz hsd
        obtain ⟨x, hx⟩ : ∃ x, d1.size = x := ⟨_, rfl⟩
        obtain ⟨y, hy⟩ : ∃ y, d2.size = y := ⟨_, rfl⟩
        rw [hx, hy] at hsd hsz
        have hx1 := hsz.1
        have hy1 := hsz.2
        have HSD := Aside0.mk hsd
        have w1 : IntKind.i64.wrap ((s : Int) + 1) = (s : Int) + 1 := IntWalk.i64_in _ (by omega)
        have w2 : IntKind.i64.wrap ((s : Int) + 1 + (x : Int)) = (s : Int) + 1 + (x : Int) := IntWalk.i64_in _ (by omega)
        have w3 : IntKind.i64.wrap ((s : Int) + 1 + (x : Int) + (y : Int)) = (s : Int) + 1 + (x : Int) + (y : Int) := IntWalk.i64_in _ (by omega)
        have hin : (i : Int) < (n : Int) := by omega
        clear hd hat hsz hsd
        go_wp2_with fail
        go_quiet (fail)
        go_wp2_with fail
        go_roundg (n - (i + 1))
        case measure => have := HI.out; omega
        case rel => exact ⟨i + 1, s + 1 + x + y, by go_num, by go_num, ⟨by omega, rfl, by rw [← HI.out.2.2, HSD.out]; omega⟩, ⟨by omega⟩, ⟨grown_drewN HW.out _⟩⟩
      · obtain rfl : i = n := by omega
        have he := HI.out.2.2
        rw [List.drop_eq_nil_of_le (by have := HN.out; omega)] at he
        have hr : R = false := by rw [← HR.out]; exact decide_eq_false (by have : Lx.sumD [] = 0 := rfl; omega)
        subst hr
        clear he
        go_wp2_with fail
        go_ret
        exact ⟨rfl, (Below.refl w.heap.size w).grown HW.out (Nat.le_refl _) (fun k hk => by cases hk)⟩
    · have hli : decide ((s : Int) ≤ 2000) = false := decide_eq_false (by omega)
      have hlt2 : decide ((2000 : Int) < (s : Int)) = true := decide_eq_true (by omega)
      have hr : R = true := by rw [← HR.out]; exact decide_eq_true (by have := HI.out; omega)
      subst hr
      by_cases hlt : i < n
      all_goals
        go_wp2_with fail
        go_ret
        exact ⟨rfl, (Below.refl w.heap.size w).grown HW.out (Nat.le_refl _) (fun k hk => by cases hk)⟩
end Go.Proofs.YtjnafjgonoficaaGreatDoor
namespace Go.Proofs.YtjnafjgonoficaaGreatDoor
open Go.RowKit Go.Proofs.YtjnafjgonoficaaGreatDoorW.PrintWords
set_option linter.unusedVariables false
set_option linter.unusedSimpArgs false
theorem ext_le (s : ByteArray) (a b : Nat) : (s.extract a b).size ≤ s.size := by
  rw [ByteArray.size_extract]; omega
theorem toks_short (s : ByteArray) (a : Nat) (f : Bool) : ∀ t ∈ Lx.toks s a f, t.t.size ≤ s.size := by
  unfold Lx.toks
  split
  · rename_i h
    intro t ht
    rcases List.mem_cons.1 ht with rfl | ht
    · exact ext_le _ _ _
    · exact toks_short s _ false t ht
  · intro t ht
    rw [List.mem_singleton.1 ht]
    exact Nat.zero_le _
  termination_by s.size - a
  decreasing_by omega
end Go.Proofs.YtjnafjgonoficaaGreatDoor
namespace Go.Proofs.YtjnafjgonoficaaGreatDoor
open Go.RowKit Go.Proofs.YtjnafjgonoficaaGreatDoorW.PrintWords
set_option linter.unusedVariables false
set_option linter.unusedSimpArgs false
namespace Lx
theorem picks_same (defs : List (ByteArray × ByteArray)) (L : List Tok) (hE : (groups (L.map kindOf)).2.1 = 0) : (groups (L.map kindOf)).1.map (pickR defs L) = chooseL defs L := by
  unfold chooseL
  apply List.map_congr_left
  intro g hg
  exact (pick_same defs L g ((groups_form _ hE).1 g hg) (groups_in L g hg)).symm
end Lx
theorem both_choose (L : List Lx.Tok) (defs : List (ByteArray × ByteArray)) (hlen : L.length ≤ 30000) (hs : ∀ t ∈ L, t.t.size ≤ 20000) : ∃ (E : Int) (V : List Int), V.length ≤ 1000000 ∧
    (∀ v dv w, Tks w v L → Dfs w dv defs → Laid w → Calls Tryz.prog 29 #[v, dv] w fun e w' => ∃ rv, e = .returned (.tuple #[rv, .int .i64 E]) ∧ Ints w' rv V ∧ Below w.heap.size w w') ∧
    (∀ v dv w, Tks w v L → Dfs w dv defs → Laid w → Calls Tryz.prog 30 #[v, dv] w fun e w' => ∃ rv, e = .returned (.tuple #[rv, .int .i64 E]) ∧ Ints w' rv V ∧ Below w.heap.size w w') := by
  obtain ⟨E, hE⟩ : ∃ E, (Lx.groups (L.map Lx.kindOf)).2.1 = E := ⟨_, rfl⟩
  by_cases h0 : E = 0
  · subst h0
    refine ⟨0, Lx.chooseL defs L, ?_, fun v dv w hT hD hL => choose_ok v dv L defs w hT hlen hs hL hD hE, fun v dv w hT hD hL => ?_⟩
    · have := (Lx.groups_small 0 (L.map Lx.kindOf) (by rw [List.length_map]; omega)).1
      unfold Lx.chooseL
      rw [List.length_map]
      exact Nat.le_trans this (by omega)
    · rw [← Lx.picks_same defs L hE]
      exact refchoose_ok v dv L defs w hT hlen hs hD hE
  · have hn : ∀ w : World, Ints w (.slice none 0 0) [] := fun w => ⟨none, 0, rfl, Nat.le_refl _, Nat.zero_le _, .inl rfl⟩
    refine ⟨E, [], Nat.zero_le _, fun v dv w hT hD hL => ?_, fun v dv w hT hD hL => ?_⟩
    · obtain ⟨DA, DC, hdv, -⟩ := hD
      exact (choose_err v dv L w hT hlen hs hL DA _ DC hdv E hE h0).mono fun e w' ⟨h1, h2⟩ => ⟨_, h1, hn w', h2⟩
    · obtain ⟨DA, DC, hdv, -⟩ := hD
      exact (refchoose_err v dv L w hT hlen hs DA _ DC hdv E hE h0).mono fun e w' ⟨h1, h2⟩ => ⟨_, h1, hn w', h2⟩
theorem eq_both (v1 v2 : Value) (l : List Int) (hl : l.length ≤ 1000000) (w : World) (h1 : Ints w v1 l) (h2 : Ints w v2 l) : Calls Tryz.prog 18 #[v1, v2] w fun e w' => e = .returned (.bool true) ∧ Below w.heap.size w w' := by
  refine (eqInts_calls v1 v2 l w hl h1 h2).mono ?_
  rintro e w' ⟨h3, h4⟩
  exact ⟨h3, below_drawn h4⟩
set_option maxRecDepth 100000 in
set_option maxHeartbeats 8000000 in
theorem chooses_calls (s : ByteArray) (dv : Value) (D : List (ByteArray × ByteArray)) (w : World) (hD : DfsR w dv D) (hL : Laid w) (hAW : AwC) : Calls Tryz.prog 7 #[.string s, dv] w fun e w' => e = .returned (.bool true) ∧ Below w.heap.size w w' := by
  have HL := Aside0.mk hL
  have HD := Aside0.mk hD
  obtain ⟨DA, DC, rfl, -⟩ := hD
  obtain ⟨dn, hdn⟩ : ∃ dn, D.length = dn := ⟨_, rfl⟩
  rw [hdn] at HD ⊢
  clear hL hdn
  by_cases hs : 3000 < s.size
  · have HSC := Aside0.mk (scanned_long s w hs)
    clear hs
    go_enter Tryz.func7, Tryz.ntmps7
    go_wp2_with (first | (go_at_call 10; (with_reducible refine HSC.out.mono ?_); rintro e w' ⟨rfl, rfl⟩))
    go_ret
    exact ⟨rfl, Below.refl _ _⟩
  · have HSC := Aside0.mk (scanned_calls s w (by omega))
    have hsl : ∀ t ∈ Lx.scan s, t.t.size ≤ 20000 := fun t ht => by have := toks_short s 0 true t ht; omega
    have hlen := scan_len s
    obtain ⟨L, hLL⟩ : ∃ L, Lx.scan s = L := ⟨_, rfl⟩
    rw [hLL] at HSC hsl hlen
    have hM : ∀ w1, Below w.heap.size w w1 → Calls Tryz.prog 24 #[.slice DA dn DC] w1 fun e w' => e = .returned (.bool (decide (2000 < Lx.sumD D))) ∧ Below w1.heap.size w1 w' := fun w1 hb => many_calls w1 _ D (HD.out.below hb)
    by_cases hm : 2000 < Lx.sumD D
    · rw [decide_eq_true hm] at hM
      have HM := Aside0.mk hM
      clear hs hm hM hsl hlen hLL
      go_enter Tryz.func7, Tryz.ntmps7
      go_wp2_with (first | (go_at_call 10; (with_reducible refine HSC.out.mono ?_); rintro e w1 ⟨v, rfl, hv, hb⟩; have HB1 := Aside0.mk hb; clear hv hb) | (go_at_call 24; (refine (HM.out w1 HB1.out).mono ?_); rintro e w2 ⟨rfl, hb⟩; have HB2 := Aside0.mk (HB1.out.trans (hb.mono HB1.out.size)); clear hb))
      go_ret
      exact ⟨rfl, HB2.out⟩
    · rw [decide_eq_false hm] at hM
      have HM := Aside0.mk hM
      have HDF := Aside0.mk (HD.out.dfs (by omega))
      obtain ⟨E, V, hV, h29, h30⟩ := both_choose L D (by omega) hsl
      have H29 := Aside0.mk h29
      have H30 := Aside0.mk h30
      clear hs hm hM hsl hlen hLL h29 h30
      go_enter Tryz.func7, Tryz.ntmps7
      go_wp2_with (first
        | (go_at_call 10; (with_reducible refine HSC.out.mono ?_); rintro e w1 ⟨v, rfl, hv, hb⟩; have HT1 := Aside0.mk (own_tks hv); have HB1 := Aside0.mk hb; clear hv hb) | (go_at_call 24; (refine (HM.out w1 HB1.out).mono ?_); rintro e w2 ⟨rfl, hb⟩; have HB2 := Aside0.mk (HB1.out.trans (hb.mono HB1.out.size)); have HT2 := Aside0.mk (HT1.out.below hb); clear hb) | (go_at_call 29; (refine (H29.out _ _ w2 HT2.out (HDF.out.below HB2.out) (HL.out.below HB2.out)).mono ?_); rintro e w3 ⟨ra, rfl, hi, hb⟩; have HB3 := Aside0.mk (HB2.out.trans (hb.mono HB2.out.size)); have HT3 := Aside0.mk (HT2.out.below hb); have HA3 := Aside0.mk hi; clear hi hb) | (go_at_call 30; (refine (H30.out _ _ w3 HT3.out (HDF.out.below HB3.out) (HL.out.below HB3.out)).mono ?_); rintro e w4 ⟨rb, rfl, hi, hb⟩; have HB4 := Aside0.mk (HB3.out.trans (hb.mono HB3.out.size)); have HE4 := Aside0.mk (eq_both ra rb V hV w4 (HA3.out.below hb) hi); clear hi hb) | (go_at_call 18; (refine HE4.out.mono ?_); rintro e w5 ⟨rfl, hb⟩; have HB5 := Aside0.mk (HB4.out.trans (hb.mono HB4.out.size)); clear hb) | (go_at_call 19; (refine (hAW w5 (HL.out.below HB5.out)).mono ?_); rintro e w6 ⟨rfl, hb⟩; have HB6 := Aside0.mk (HB5.out.trans (hb.mono HB5.out.size)); clear hb))
      go_ret
      exact ⟨rfl, HB6.out⟩
end Go.Proofs.YtjnafjgonoficaaGreatDoor
namespace Go.Proofs.YtjnafjgonoficaaGreatDoor
open Go.ChangeShapes Go.WideShapes Go.ChangeAt Go.RowKit Go.WideMaps Go.WideElems
set_option linter.unusedVariables false
set_option linter.unusedSimpArgs false
theorem laid_out : laidOutB Tryz.prog = true := by kernel_rfl
end Go.Proofs.YtjnafjgonoficaaGreatDoor
namespace Go.Proofs.YtjnafjgonoficaaGreatDoor
open Go.ChangeShapes Go.WideShapes Go.ChangeAt Go.RowKit Go.WideMaps Go.WideElems Go.Deep
set_option linter.unusedVariables false
set_option linter.unusedSimpArgs false
theorem cells9 : Tryz.prog.cellsOf 9 = 1 := by kernel_rfl
theorem cells71 : Tryz.prog.cellsOf 71 = 2 := by kernel_rfl
theorem weights_mem {H : Type} (e : TypeId) (n : Nat) : ∀ (l : List (DataW H)) (d : DataW H), d ∈ l → n ∈ d.weights Tryz.prog e → n ∈ DataW.weightsAll Tryz.prog e l
  | [], d, h, _ => by cases h
  | x :: r, d, h, hn => by
    rw [DataW.weightsAll, List.mem_append]
    rcases List.mem_cons.1 h with rfl | h
    · exact .inl hn
    · exact .inr (weights_mem e n r d h hn)
set_option maxRecDepth 100000 in
theorem pairs_arg {H : Type} {enc : TypeId × Value → H} {W : World} {base : Nat} {v : Value} {d : DataW H} {ps : List MemPlace} (hv : Value.okWide Tryz.prog W .any base 49 v) (h : DataW.Trod enc Tryz.prog W 0 (fun _ => true) true 49 v d ps)
    (hsz : ∀ n ∈ d.weights Tryz.prog 49, n ≤ reachBytes) : ∃ L, DfsR W v L := by
  obtain ⟨a, len, cap, rfl⟩ := okWide_slice Tryz.underlying49 hv
  obtain ⟨fuel, hf⟩ := h
  rcases open_slice_pairs Tryz.underlying49 Tryz.underlying71 cells71 rfl rfl cells9 cells9 hf with ⟨e, -⟩ | ⟨a', len', cap', m, n, V0, V1, D0, D1, P0, P1, e, -, hlc, hcm, hmm, hx, hi⟩
  · have e := List.head_eq_of_cons_eq e
    simp only [Value.slice.injEq] at e
    obtain ⟨rfl, rfl, rfl⟩ := e
    exact ⟨[], none, 0, rfl, Nat.le_refl _, Nat.zero_le _, (fun d hd => by cases hd), .inl rfl⟩
  · have e := List.head_eq_of_cons_eq e
    simp only [Value.slice.injEq] at e
    obtain ⟨rfl, rfl, rfl⟩ := e
    rw [if_pos rfl] at hmm
    subst hmm
    simp only [Prod.mk.injEq] at hx
    have hdx := hx.1
    have key : ∀ i, i < len → ∃ s0 s1 : ByteArray, V0 i = .string s0 ∧ V1 i = .string s1 ∧ s0.size ≤ 140737488351232 ∧ s1.size ≤ 140737488351232 := by
      intro i hil
      obtain ⟨-, -, t0, t1⟩ := hi i (by omega)
      obtain ⟨s0, e0, f0, -⟩ := DataW.trod_string Tryz.underlying9 t0
      obtain ⟨s1, e1, f1, -⟩ := DataW.trod_string Tryz.underlying9 t1
      simp only [List.cons.injEq, and_true] at e0 e1
      simp only [Prod.mk.injEq] at f0 f1
      refine ⟨s0, s1, e0, e1, ?_, ?_⟩
      · have hm : s0.data.toList.length ∈ d.weights Tryz.prog 49 := by
          rw [hdx]
          rw [DataW.weights, Tryz.underlying49]
          refine List.mem_cons_of_mem _ (List.mem_append_left _ (weights_mem 71 _ _ (.agg [D0 i, D1 i]) (List.mem_map.2 ⟨i, List.mem_range.2 hil, rfl⟩) ?_))
          rw [DataW.weights, Tryz.underlying71]
          show _ ∈ DataW.weightsEach Tryz.prog [9, 9] [D0 i, D1 i]
          rw [f0.1, f1.1]
          simp [DataW.weightsEach, DataW.weights]
        have := hsz _ hm
        rw [Array.length_toList] at this
        unfold reachBytes at this
        exact this
      · have hm : s1.data.toList.length ∈ d.weights Tryz.prog 49 := by
          rw [hdx]
          rw [DataW.weights, Tryz.underlying49]
          refine List.mem_cons_of_mem _ (List.mem_append_left _ (weights_mem 71 _ _ (.agg [D0 i, D1 i]) (List.mem_map.2 ⟨i, List.mem_range.2 hil, rfl⟩) ?_))
          rw [DataW.weights, Tryz.underlying71]
          show _ ∈ DataW.weightsEach Tryz.prog [9, 9] [D0 i, D1 i]
          rw [f0.1, f1.1]
          simp [DataW.weightsEach, DataW.weights]
        have := hsz _ hm
        rw [Array.length_toList] at this
        unfold reachBytes at this
        exact this
    have strs : ∀ v : Value, ∃ s : ByteArray, ∀ t, v = .string t → s = t := by
      intro v
      by_cases hv : ∃ t, v = .string t
      · obtain ⟨t, rfl⟩ := hv
        exact ⟨t, fun u hu => by cases hu; rfl⟩
      · exact ⟨⟨#[]⟩, fun t ht => absurd ⟨t, ht⟩ hv⟩
    have hS0 : ∃ S0 : Nat → ByteArray, ∀ i, i < len → V0 i = .string (S0 i) ∧ (S0 i).size ≤ 140737488351232 := by
      refine ⟨fun i => Classical.choose (strs (V0 i)), fun i hil => ?_⟩
      obtain ⟨s0, s1, e0, -, h0, -⟩ := key i hil
      have := Classical.choose_spec (strs (V0 i)) s0 e0
      dsimp only
      rw [this]
      exact ⟨e0, h0⟩
    have hS1 : ∃ S1 : Nat → ByteArray, ∀ i, i < len → V1 i = .string (S1 i) ∧ (S1 i).size ≤ 140737488351232 := by
      refine ⟨fun i => Classical.choose (strs (V1 i)), fun i hil => ?_⟩
      obtain ⟨s0, s1, -, e1, -, h1⟩ := key i hil
      have := Classical.choose_spec (strs (V1 i)) s1 e1
      dsimp only
      rw [this]
      exact ⟨e1, h1⟩
    obtain ⟨S0, hS0⟩ := hS0
    obtain ⟨S1, hS1⟩ := hS1
    refine ⟨(List.range len).map fun i => (S0 i, S1 i), some a', m, by simp, by simp; exact hlc, hcm, ?_, ?_⟩
    · intro x hx
      obtain ⟨i, hir, rfl⟩ := List.mem_map.1 hx
      exact ⟨(hS0 i (List.mem_range.1 hir)).2, (hS1 i (List.mem_range.1 hir)).2⟩
    · by_cases h0 : len = 0
      · left; subst h0; rfl
      · right
        obtain ⟨g, o, sp⟩ := a'
        have hc := (hi 0 (by omega)).1
        have hsp : sp = none := by
          have := hc
          unfold World.cell? at this
          rw [show (Addr.add ⟨g, o, sp⟩ (0 * 2)) = ⟨g, o, sp⟩ from rfl] at this
          dsimp only at this
          cases hb : W.heap[g]? with
          | none => rw [hb] at this; cases this
          | some x =>
            rw [hb] at this
            cases sp with
            | none => rfl
            | some y => cases x <;> simp at this
        subst hsp
        refine ⟨g, o, rfl, cell_lt (o := o) hc, fun i x hx => ?_⟩
        rw [List.getElem?_map] at hx
        obtain ⟨j, hj, rfl⟩ := Option.map_eq_some_iff.1 hx
        have hil : i < len := by
          have := (List.getElem?_eq_some_iff.1 hj).1
          simpa using this
        have hji : j = i := by
          rw [List.getElem?_range hil] at hj
          exact (Option.some.inj hj).symm
        subst hji
        obtain ⟨c0, c1, -, -⟩ := hi j (by omega)
        rw [add_none] at c0 c1
        rw [(hS0 j hil).1] at c0
        rw [(hS1 j hil).1] at c1
        exact ⟨c0, by rw [Nat.add_assoc]; exact c1⟩
end Go.Proofs.YtjnafjgonoficaaGreatDoor
