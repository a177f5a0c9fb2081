/-
  What cond.View and cond.First come to where the groups are not as said, or the choice does not fit. Conditions: the tokens and the choice lie in memory; the tokens are short; the library's variables are as their text lays them.
  A text's places against its groups' lines, plainly: a token that is no directive is in just the branches that the lines say. No program in sight. Conditions: none.
  What the reference's View and First come to. Conditions: the tokens and the choice lie in memory; the tokens are short.
  What the reference's View and First come to: where the choice does not fit, and where it does. Conditions: the tokens and the choice lie in memory; the tokens are short.
  The program's and the reference's View and First come to one and the same: for every choice, and for the first branches. Conditions: the tokens and the choice lie in memory; the tokens are short; the library's variables are as their text lays them.
-/
import Derived.Test.YtjnafjgonoficaaGreatDoorK12
import Derived.Test.YtjnafjgonoficaaGreatDoorK11
import Derived.Test.YtjnafjgonoficaaGreatDoorK15
namespace Go.Proofs.YtjnafjgonoficaaGreatDoor
open Go.RowKit Go.Proofs.YtjnafjgonoficaaGreatDoorW.PrintWords
set_option linter.unusedVariables false
set_option linter.unusedSimpArgs false
set_option maxRecDepth 100000 in
theorem places_err (v : Value) (L : List Lx.Tok) (w : World) (hT : Tks w v L) (hlen : L.length ≤ 100000) (hs : ∀ t ∈ L, t.t.size ≤ 20000) (hm : MaxLen w) (hbl : Blanks w) (h5 : 5 ≤ w.heap.size)
    (E : Int) (hE : (Lx.groups (L.map Lx.kindOf)).2.1 = E) (hne : (E != 0) = true) :
    Calls Tryz.prog 46 #[v] w fun e w' => e = .returned (.tuple #[.slice none 0 0, .slice none 0 0, .int .i64 E]) ∧ Below w.heap.size w w' := by
  have hg := condGroups_calls v L w hT hlen hs hm hbl h5
  rw [hE] at hg
  have HG := Aside0.mk hg
  clear hg hE hT hs hm hbl h5
  go_enter Tryz.func46, Tryz.ntmps46
  go_wp2_with (first | (go_at_call 16; (refine HG.out.mono ?_); rintro e w1 ⟨gv, rfl, hgrp, hb⟩; have HB := Aside0.mk hb; clear hgrp hb))
  go_ret3
  exact ⟨rfl, HB.out⟩
set_option maxRecDepth 100000 in
theorem view_err (v : Value) (CA : Option Addr) (CN CC : Nat) (L : List Lx.Tok) (w : World) (hT : Tks w v L) (hlen : L.length ≤ 100000) (hs : ∀ t ∈ L, t.t.size ≤ 20000) (hm : MaxLen w) (hbl : Blanks w) (h5 : 5 ≤ w.heap.size)
    (E : Int) (hE : (Lx.groups (L.map Lx.kindOf)).2.1 = E) (hne : (E != 0) = true) :
    Calls Tryz.prog 20 #[v, .slice CA CN CC] w fun e w' => e = .returned (.tuple #[.slice none 0 0, .int .i64 E]) ∧ Below w.heap.size w w' := by
  have hB1 : Below w.heap.size w (w.alloc (.cells #[.slice CA CN CC] 39)) := (Below.refl _ _).alloc (Nat.le_refl _) _
  have hpl := places_err v L (w.alloc (.cells #[.slice CA CN CC] 39)) (hT.below hB1) hlen hs (hm.belowN hB1 (by omega)) (hbl.below hB1 (by omega)) (by simp; omega) E hE hne
  have HPL := Aside0.mk hpl
  have HB1 := Aside0.mk hB1
  clear hpl hB1 hE hT hs hm hbl h5
  go_enter Tryz.func20, Tryz.ntmps20
  go_wp2_with (first | (go_at_call 46; (refine HPL.out.mono ?_); rintro e w1 ⟨rfl, hb⟩; have HB := Aside0.mk hb; clear hb))
  go_ret2
  exact ⟨rfl, HB1.out.trans (HB.out.mono (by simp))⟩
set_option maxRecDepth 100000 in
theorem first_err (v : Value) (L : List Lx.Tok) (w : World) (hT : Tks w v L) (hlen : L.length ≤ 100000) (hs : ∀ t ∈ L, t.t.size ≤ 20000) (hm : MaxLen w) (hbl : Blanks w) (h5 : 5 ≤ w.heap.size)
    (E : Int) (hE : (Lx.groups (L.map Lx.kindOf)).2.1 = E) (hne : (E != 0) = true) :
    Calls Tryz.prog 22 #[v] w fun e w' => e = .returned (.tuple #[.slice none 0 0, .int .i64 E]) ∧ Below w.heap.size w w' := by
  have hg := condGroups_calls v L w hT hlen hs hm hbl h5
  rw [hE] at hg
  have HG := Aside0.mk hg
  clear hg hE hT hs hm hbl h5
  go_enter Tryz.func22, Tryz.ntmps22
  go_wp2_with (first | (go_at_call 16; (refine HG.out.mono ?_); rintro e w1 ⟨gv, rfl, hgrp, hb⟩; have HB := Aside0.mk hb; clear hgrp hb))
  go_ret2
  exact ⟨rfl, HB.out⟩
/-- A number of a choice is out of range. -/
def badAt (ch : List Int) (gs : List Lx.G) (i : Nat) : Prop := ∃ (x : Int) (g : Lx.G), ch[i]? = some x ∧ gs[i]? = some g ∧ (x < 0 ∨ g.br ≤ x)
set_option maxRecDepth 100000 in
set_option maxHeartbeats 8000000 in
theorem view_range (v cv : Value) (L : List Lx.Tok) (ch : List Int) (w : World) (hT : Tks w v L) (hI : Ints w cv ch) (hlen : L.length ≤ 100000) (hcl : ch.length ≤ 1000000) (hs : ∀ t ∈ L, t.t.size ≤ 20000) (hm : MaxLen w) (hbl : Blanks w) (h5 : 5 ≤ w.heap.size)
    (hE : (Lx.groups (L.map Lx.kindOf)).2.1 = 0) (outs : List (List (Int × Int))) (hP : Lx.places (Lx.groups (L.map Lx.kindOf)).1 L.length = some outs) (hSm : Lx.Small (Lx.groups (L.map Lx.kindOf)).1)
    (hbad : ch.length ≠ (Lx.groups (L.map Lx.kindOf)).1.length ∨ ∃ i, badAt ch (Lx.groups (L.map Lx.kindOf)).1 i) :
    Calls Tryz.prog 20 #[v, cv] w fun e w' => e = .returned (.tuple #[.slice none 0 0, .int .i64 1]) ∧ Below w.heap.size w w' := by
  have hB1 : Below w.heap.size w (w.alloc (.cells #[cv] 39)) := (Below.refl _ _).alloc (Nat.le_refl _) _
  have hpl := places_calls v L (w.alloc (.cells #[cv] 39)) (hT.below hB1) hlen hs (hm.belowN hB1 (by omega)) (hbl.below hB1 (by omega)) (by simp; omega) hE outs hP hSm
  have hgl := hSm.1
  obtain ⟨gs, hgs⟩ : ∃ gs, (Lx.groups (L.map Lx.kindOf)).1 = gs := ⟨_, rfl⟩
  rw [hgs] at hbad hgl hpl
  have HPL := Aside0.mk hpl
  have HB1 := Aside0.mk hB1
  obtain ⟨CA, CC, rfl, hd1, hd2, hCA⟩ := hI
  obtain ⟨gn, hgn⟩ : ∃ gn, gs.length = gn := ⟨_, rfl⟩
  obtain ⟨cn, hcn⟩ : ∃ cn, ch.length = cn := ⟨_, rfl⟩
  have hI2 : Ints (w.alloc (.cells #[.slice CA ch.length CC] 39)) (.slice CA ch.length CC) ch := Ints.below ⟨CA, CC, rfl, hd1, hd2, hCA⟩ hB1
  rw [hcn] at hI2 HPL HB1 hd1 hcl ⊢
  rw [hgn] at hgl
  have HI2 := Aside0.mk hI2
  have HGN := Aside0.mk hgn
  have HCN := Aside0.mk hcn
  have HBAD := Aside0.mk hbad
  clear hm hbl hs hE hP hSm hpl hB1 hCA hgs hI2 hgn hcn hT hbad h5
  by_cases hne : cn = gn
  · subst hne
    have HEX := Aside0.mk (show ∃ i, badAt ch gs i from HBAD.out.resolve_left (fun e => e (by rw [HCN.out, HGN.out])))
    clear HBAD
    go_enter Tryz.func20, Tryz.ntmps20
    go_wp2_with (go_at_call 46; (refine HPL.out.mono ?_); rintro e w1 ⟨ov, gv, rfl, hgrp, hout, hb⟩; have HGRP := Aside0.mk hgrp; have HB := Aside0.mk hb; have hgv : ∃ A c, gv = .slice A cn c := (by obtain ⟨ls, e1, e2, e3⟩ := hgrp; rw [HGN.out] at e2; exact own_slice e2); obtain ⟨GA, GC, rfl⟩ := hgv; have c0 : w1.cell? ⟨w.heap.size, 0, none⟩ = some (.slice CA cn CC) := (hb.cell (show w.heap.size < _ by simp)).trans (by rw [blk_cell (blk_new w _)]; rfl); have hszz := hb.size; have hwb : w.heap.size < w1.heap.size := (by simp at hszz; omega); clear hgrp hout hb hszz)
    have HI1 := Aside0.mk (HI2.out.below HB.out)
    go_loopg [31] cn (fun kq v31 W => ∃ i : Nat, v31 = .int .i64 i ∧ Aside0 (i ≤ cn ∧ kq = cn - i ∧ ∀ j, j < i → ¬ badAt ch gs j) ∧ Aside0 (w1.grownBy W none))
    case atStart => exact ⟨0, rfl, ⟨by omega, rfl, fun j hj => absurd hj (Nat.not_lt_zero j)⟩, ⟨World.grownBy.refl _ _⟩⟩
    case round =>
      obtain ⟨i, rfl, HJ, HW⟩ := hrel
      have hi := HJ.out.1
      have c1 := HW.out.cell c0 (by simp)
      have hwbr : w.heap.size < wr.heap.size := by have := HW.out.size; omega
      by_cases hlt : i < cn
      · obtain ⟨g, hg⟩ : ∃ g, gs[i]? = some g := ⟨_, List.getElem?_eq_getElem (by have := HGN.out; omega)⟩
        obtain ⟨x, hx⟩ : ∃ x, ch[i]? = some x := ⟨_, List.getElem?_eq_getElem (by have := HCN.out; omega)⟩
        obtain ⟨gb, c', gl, cl, hgv, a0, a1, a2, a3, -, -, -, -, hgb1, -⟩ := HGRP.out.at i g hg
        simp only [Value.slice.injEq] at hgv
        obtain ⟨rfl, -, rfl⟩ := hgv
        have a0 := HW.out.cell a0 (by simp)
        have a1 := HW.out.cell a1 (by simp)
        have a2 := HW.out.cell a2 (by simp)
        have a3 := HW.out.cell a3 (by simp)
        obtain ⟨CA', CC', e1, -, -, hor⟩ := HI1.out
        rw [HCN.out] at e1
        simp only [Value.slice.injEq] at e1
        obtain ⟨rfl, -, rfl⟩ := e1
        obtain ⟨cg, co, rfl, hat, hcgl⟩ := hor.resolve_left (fun e => by rw [e] at hx; simp at hx)
        have x0 := HW.out.cell (hat i x hx) (by simp)
        have hcgw : cg < wr.heap.size := Nat.lt_of_lt_of_le hcgl HW.out.size
        have hgbw : gb < wr.heap.size := Nat.lt_of_lt_of_le hgb1 HW.out.size
        have HBI := Aside0.mk (show badAt ch gs i ↔ (x < 0 ∨ g.br ≤ x) from ⟨fun ⟨x', g', e1, e2, e3⟩ => by rw [hx] at e1; rw [hg] at e2; cases e1; cases e2; exact e3, fun e => ⟨x, g, hx, hg, e⟩⟩)
        obtain ⟨p1, hp1⟩ : ∃ p1, decide (x < 0) = p1 := ⟨_, rfl⟩
        obtain ⟨p2, hp2⟩ : ∃ p2, decide (g.br ≤ x) = p2 := ⟨_, rfl⟩
        have HP1 := Aside0.mk hp1
        have HP2 := Aside0.mk hp2
        clear hg hx hor hat hcgl hgb1
        cases p1
        · cases p2
          · go_wp2_with fail
            go_quiet (fail)
            go_wp2_with fail
            go_roundg (cn - (i + 1))
            case measure => have := HJ.out; omega
            case rel =>
              refine ⟨i + 1, by go_num, ⟨by omega, rfl, fun j hj => ?_⟩, ⟨grown_drewN (grown_trans HW.out (World.grownBy_alloc _ _ _)) _⟩⟩
              rcases Nat.lt_or_ge j i with h | h
              · exact HJ.out.2.2 j h
              · obtain rfl : j = i := by omega
                rw [HBI.out]
                rintro (h1 | h1)
                · exact of_decide_eq_false HP1.out h1
                · exact of_decide_eq_false HP2.out h1
          · go_wp2_with fail
            go_quiet (fail)
            go_wp2_with fail
            go_ret2
            have hB01 := HB1.out.trans (HB.out.mono (by simp))
            exact ⟨rfl, hB01.grown (grown_drewN (grown_trans HW.out (World.grownBy_alloc _ _ _)) _) hB01.size (fun k hk => by cases hk)⟩
        · go_wp2_with fail
          go_quiet (fail)
          go_wp2_with fail
          go_ret2
          have hB01 := HB1.out.trans (HB.out.mono (by simp))
          exact ⟨rfl, hB01.grown (grown_drewN (grown_trans HW.out (World.grownBy_alloc _ _ _)) _) hB01.size (fun k hk => by cases hk)⟩
      · obtain ⟨j, hj⟩ := HEX.out
        have hjl : j < cn := by
          obtain ⟨x, g, h1, -⟩ := hj
          have := (List.getElem?_eq_some_iff.1 h1).1
          have := HCN.out; omega
        exact absurd hj (HJ.out.2.2 j (by omega))
  · have hd : ((cn : Int) == (gn : Int)) = false := by rw [beq_eq_false_iff_ne]; omega
    clear HBAD
    go_enter Tryz.func20, Tryz.ntmps20
    go_wp2_with (go_at_call 46; (refine HPL.out.mono ?_); rintro e w1 ⟨ov, gv, rfl, hgrp, hout, hb⟩; have HB := Aside0.mk hb; have hgv : ∃ A c, gv = .slice A gn c := (by obtain ⟨ls, e1, e2, e3⟩ := hgrp; rw [HGN.out] at e2; exact own_slice e2); obtain ⟨GA, GC, rfl⟩ := hgv; have c0 : w1.cell? ⟨w.heap.size, 0, none⟩ = some (.slice CA cn CC) := (hb.cell (show w.heap.size < _ by simp)).trans (by rw [blk_cell (blk_new w _)]; rfl); clear hgrp hout hb)
    go_ret2
    exact ⟨rfl, HB1.out.trans (HB.out.mono (by simp))⟩
end Go.Proofs.YtjnafjgonoficaaGreatDoor
namespace Go.Proofs.YtjnafjgonoficaaGreatDoor
open Go.RowKit Go.Proofs.YtjnafjgonoficaaGreatDoorW.PrintWords
set_option linter.unusedVariables false
set_option linter.unusedSimpArgs false
namespace Lx
/-- The branch of a group (its lines) that a place is in, or -1. -/
def withinL : List Int → Int → Int → Int
  | a :: b :: r, i, k => if a < i ∧ i < b then k else withinL (b :: r) i (k + 1)
  | _, _, _ => -1
theorem within_low : ∀ (A : List Int) (i k : Int), (∀ x ∈ A, x < i) → withinL A i k = -1
  | [], i, k, _ => rfl
  | [a], i, k, _ => rfl
  | a :: b :: r, i, k, h => by
    unfold withinL
    have hb := h b (by simp)
    rw [if_neg (by omega)]
    exact within_low (b :: r) i (k + 1) fun x hx => h x (List.mem_cons_of_mem _ hx)
theorem within_high : ∀ (A : List Int) (i k : Int), (∀ x ∈ A, i < x) → withinL A i k = -1
  | [], i, k, _ => rfl
  | [a], i, k, _ => rfl
  | a :: b :: r, i, k, h => by
    unfold withinL
    have hb := h a (by simp)
    rw [if_neg (by omega)]
    exact within_high (b :: r) i (k + 1) fun x hx => h x (List.mem_cons_of_mem _ hx)
theorem within_in (B : List Int) (i : Int) (hB : B ≠ []) (hb : ∀ x ∈ B, i < x) : ∀ (A : List Int) (k : Int), A ≠ [] → (∀ x ∈ A, x < i) → withinL (A ++ B) i k = k + (A.length : Int) - 1
  | [], k, h, _ => absurd rfl h
  | [a], k, _, h => by
    obtain ⟨b, r, rfl⟩ := List.exists_cons_of_ne_nil hB
    have h1 := h a (by simp)
    have h2 := hb b (by simp)
    simp only [List.singleton_append, withinL, List.length_singleton]
    rw [if_pos ⟨h1, h2⟩]; omega
  | a :: a2 :: r, k, _, h => by
    have h2 := h a2 (by simp)
    simp only [List.cons_append, withinL]
    rw [if_neg (by omega), ← List.cons_append, within_in B i hB hb (a2 :: r) (k + 1) (by simp) fun x hx => h x (List.mem_cons_of_mem _ hx)]
    simp only [List.length_cons]; omega
theorem headD_mem {l : List Int} (h : l ≠ []) : l.headD 0 ∈ l := by
  cases l with
  | nil => exact absurd rfl h
  | cons a r => simp
theorem getLastD_mem {l : List Int} (h : l ≠ []) : l.getLastD 0 ∈ l := by
  rw [List.getLastD_eq_getLast?, List.getLast?_eq_some_getLast h]
  exact List.getLast_mem h
theorem getLastD_app (A r : List Int) (h : r ≠ []) : (A ++ r).getLastD 0 = r.getLastD 0 := by
  rw [List.getLastD_eq_getLast?, List.getLastD_eq_getLast?, List.getLast?_append, List.getLast?_eq_some_getLast h]; rfl
/-- The things that a directive does. -/
theorem gstep_cases (c : Int) (S T : GS) (k : ByteArray) (i : Nat) (h : gstep c S k i = some T) :
    (opens k = true ∧ (∃ g : G, g.lines = [(i : Int)] ∧ T.gs = S.gs ++ [g]) ∧ T.st = (S.gs.length, 0, false) :: S.st) ∨
    (opens k = false ∧ closes k = true ∧ ∃ (n b : Nat) (e : Bool) (r : List (Nat × Nat × Bool)) (F : G → G), S.st = (n, b, e) :: r ∧ (∀ g : G, (F g).lines = g.lines ++ [(i : Int)]) ∧ T.gs = S.gs.modify n F ∧
      ((T.st = r ∧ ∀ g : G, g.lines ≠ [] → 0 < (F g).br) ∨ ∃ e', T.st = (n, b + 1, e') :: r)) ∨
    (opens k = false ∧ closes k = false ∧ T = S) := by
  unfold gstep at h
  cases ho : opens k
  · rw [ho, if_neg Bool.false_ne_true] at h
    cases hc : closes k
    · rw [hc, if_neg Bool.false_ne_true] at h
      cases h; exact .inr (.inr ⟨rfl, rfl, rfl⟩)
    · rw [hc, if_pos rfl] at h
      rcases hs : S.st with _ | ⟨⟨n, b, e⟩, r⟩
      · rw [hs] at h; cases h
      · rw [hs] at h
        dsimp only at h
        split at h
        · cases h
        · split at h
          · cases h
            refine .inr (.inl ⟨rfl, rfl, n, b, e, r, _, rfl, fun g => rfl, rfl, .inl ⟨rfl, fun g hg => ?_⟩⟩)
            have h0 : 0 < g.lines.length := List.length_pos_iff.2 hg
            dsimp only
            split <;> omega
          · cases h
            exact .inr (.inl ⟨rfl, rfl, n, b, e, r, _, rfl, fun g => rfl, rfl, .inr ⟨_, rfl⟩⟩)
  · rw [ho, if_pos rfl] at h
    rcases hs : S.st with _ | ⟨⟨n, b, e⟩, r⟩
    · rw [hs] at h; cases h
      exact .inl ⟨rfl, ⟨_, rfl, rfl⟩, rfl⟩
    · rw [hs] at h; cases h
      exact .inl ⟨rfl, ⟨_, rfl, rfl⟩, rfl⟩
/-- What is known on the way to a place agrees with the groups in the end. -/
structure Ext (S : GS) (gs : List G) (i : Nat) : Prop where
  len : S.gs.length ≤ gs.length
  ext : ∀ (j : Nat) (g h : G), S.gs[j]? = some g → gs[j]? = some h → ∃ r, h.lines = g.lines ++ r ∧ (∀ x ∈ r, (i : Int) ≤ x) ∧ (r = [] ↔ ∀ p ∈ S.st, p.1 ≠ j)
  new : ∀ (j : Nat) (h : G), S.gs.length ≤ j → gs[j]? = some h → ∀ x ∈ h.lines, (i : Int) ≤ x
theorem ext_back (c : Int) (S T : GS) (k : ByteArray) (i : Nat) (gs : List G) (h : gstep c S k i = some T) (E : Ext T gs (i + 1)) (hS : Good S) : Ext S gs i := by
  rcases gstep_cases c S T k i h with ⟨ho, ⟨g, hg, hgs⟩, hst⟩ | ⟨ho, hc, n, b, e, r, F, hs, hF, hgs, hst⟩ | ⟨ho, hc, rfl⟩
  · have hl : T.gs.length = S.gs.length + 1 := by rw [hgs]; simp
    refine ⟨by have := E.len; omega, ?_, ?_⟩
    · intro j x y hx hy
      have hj := (List.getElem?_eq_some_iff.1 hx).1
      obtain ⟨r, h1, h2, h3⟩ := E.ext j x y (by rw [hgs, List.getElem?_append_left hj]; exact hx) hy
      refine ⟨r, h1, fun z hz => by have := h2 z hz; omega, ?_⟩
      rw [h3, hst]
      constructor
      · intro a p hp; exact a p (List.mem_cons_of_mem _ hp)
      · intro a p hp
        rcases List.mem_cons.1 hp with rfl | hp
        · dsimp only; omega
        · exact a p hp
    · intro j y hj hy z hz
      rcases Nat.lt_or_ge S.gs.length j with hj2 | hj2
      · have := E.new j y (by omega) hy z hz; omega
      · obtain rfl : j = S.gs.length := by omega
        obtain ⟨r, h1, h2, -⟩ := E.ext S.gs.length g y (by rw [hgs, List.getElem?_append_right (Nat.le_refl _), Nat.sub_self]; rfl) hy
        rw [h1, hg] at hz
        rcases List.mem_append.1 hz with hz | hz
        · rw [List.mem_singleton.1 hz]; exact Int.le_refl _
        · have := h2 z hz; omega
  · have hl : T.gs.length = S.gs.length := by rw [hgs]; simp
    have hd := hS.desc
    rw [hs] at hd
    have hd1 := (List.pairwise_cons.1 hd).1
    refine ⟨by have := E.len; omega, ?_, ?_⟩
    · intro j x y hx hy
      have hTj : T.gs[j]? = some (if n = j then F x else x) := by
        rw [hgs, List.getElem?_modify, hx]; rfl
      obtain ⟨r', h1, h2, h3⟩ := E.ext j _ y hTj hy
      by_cases hn : n = j
      · rw [if_pos hn, hF] at h1
        refine ⟨(i : Int) :: r', by rw [h1, List.append_assoc]; rfl, ?_, ?_⟩
        · intro z hz
          rcases List.mem_cons.1 hz with rfl | hz
          · exact Int.le_refl _
          · have := h2 z hz; omega
        · constructor
          · intro a; cases a
          · intro a; exact absurd hn (a (n, b, e) (by rw [hs]; exact List.mem_cons_self))
      · rw [if_neg hn] at h1
        refine ⟨r', h1, fun z hz => by have := h2 z hz; omega, ?_⟩
        rw [h3, hs]
        constructor
        · intro a p hp
          rcases List.mem_cons.1 hp with rfl | hp
          · exact hn
          · rcases hst with ⟨e1, -⟩ | ⟨e', e1⟩
            · exact a p (by rw [e1]; exact hp)
            · exact a p (by rw [e1]; exact List.mem_cons_of_mem _ hp)
        · intro a p hp
          rcases hst with ⟨e1, -⟩ | ⟨e', e1⟩
          · rw [e1] at hp; exact a p (List.mem_cons_of_mem _ hp)
          · rw [e1] at hp
            rcases List.mem_cons.1 hp with rfl | hp
            · exact hn
            · exact a p (List.mem_cons_of_mem _ hp)
    · intro j y hj hy z hz
      have := E.new j y (by omega) hy z hz; omega
  · refine ⟨E.len, ?_, ?_⟩
    · intro j x y hx hy
      obtain ⟨r, h1, h2, h3⟩ := E.ext j x y hx hy
      exact ⟨r, h1, fun z hz => by have := h2 z hz; omega, h3⟩
    · intro j y hj hy z hz
      have := E.new j y hj hy z hz; omega
theorem ext_run (c : Int) (gs : List G) : ∀ (ks : List ByteArray) (S T : GS) (i : Nat), grun c S ks i = .inl T → T.gs = gs → T.st = [] → Good S → Ext S gs i
  | [], S, T, i, h, hg, hst, hS => by
    unfold grun at h; cases h
    subst hg
    refine ⟨Nat.le_refl _, ?_, ?_⟩
    · intro j x y hx hy
      rw [hx] at hy; cases hy
      exact ⟨[], by simp, by simp, by rw [hst]; simp⟩
    · intro j y hj hy
      have := (List.getElem?_eq_some_iff.1 hy).1; omega
  | k :: r, S, T, i, h, hg, hst, hS => by
    unfold grun at h
    cases hq : gstep c S k i with
    | none => rw [hq] at h; cases h
    | some U =>
      rw [hq] at h
      have hU := good_step c S U k i hq hS
      exact ext_back c S U k i gs hq (ext_run c gs r U T (i + 1) h hg hst hU) hS
/-- The groups that are open, from outside in, with their branches. -/
def nowOf (st : List (Nat × Nat × Bool)) : List (Int × Int) := (st.map fun p => ((p.1 : Int), (p.2.1 : Int))).reverse
theorem nowOf_cons (p : Nat × Nat × Bool) (r : List (Nat × Nat × Bool)) : nowOf (p :: r) = nowOf r ++ [((p.1 : Int), (p.2.1 : Int))] := by unfold nowOf; simp
theorem opener_none : ∀ (gs : List G) (i : Int) (n : Nat), (∀ g ∈ gs, g.lines.headD 0 ≠ i) → opener gs i n = none
  | [], i, n, _ => rfl
  | g :: r, i, n, h => by
    unfold opener
    rw [opener_none r i (n + 1) fun x hx => h x (List.mem_cons_of_mem _ hx)]
    dsimp only
    rw [if_neg (h g (by simp))]
theorem opener_at : ∀ (gs : List G) (i : Int) (m n : Nat) (g : G), gs[m]? = some g → g.lines.headD 0 = i → (∀ (j : Nat) (x : G), m < j → gs[j]? = some x → x.lines.headD 0 ≠ i) → opener gs i n = some (n + m)
  | [], i, m, n, g, h, _, _ => by simp at h
  | x :: r, i, 0, n, g, h, h1, h2 => by
    simp at h; subst h
    unfold opener
    rw [opener_none r i (n + 1) fun y hy => by
      obtain ⟨j, hj⟩ := List.mem_iff_getElem?.1 hy
      exact h2 (j + 1) y (by omega) (by simpa using hj)]
    dsimp only
    rw [if_pos h1]; rfl
  | x :: r, i, m + 1, n, g, h, h1, h2 => by
    unfold opener
    rw [opener_at r i m (n + 1) g (by simpa using h) h1 fun j y hj hy => h2 (j + 1) y (by omega) (by simpa using hy)]
    dsimp only
    congr 1; omega
theorem isEnd_no (gs : List G) (i : Int) (h : ∀ g ∈ gs, g.lines.getLastD 0 ≠ i) : isEnd gs i = false := by
  unfold isEnd
  rw [List.any_eq_false]
  intro g hg
  simpa using h g hg
theorem isEnd_yes (gs : List G) (i : Int) (g : G) (hg : g ∈ gs) (h : g.lines.getLastD 0 = i) : isEnd gs i = true := by
  unfold isEnd
  rw [List.any_eq_true]
  exact ⟨g, hg, by simpa using h⟩
theorem isOther_no (gs : List G) (i : Int) (h : ∀ g ∈ gs, i ∉ g.lines) : isOther gs i = false := by
  unfold isOther
  rw [List.any_eq_false]
  intro g hg hc
  exact h g hg (List.mem_of_mem_drop (List.elem_iff.1 hc))
theorem isOther_yes (gs : List G) (i : Int) (g : G) (hg : g ∈ gs) (h : i ∈ g.lines.drop 1) : isOther gs i = true := by
  unfold isOther
  rw [List.any_eq_true]
  exact ⟨g, hg, List.elem_iff.2 h⟩
theorem nowOf_last (p : Nat × Nat × Bool) (r : List (Nat × Nat × Bool)) : (nowOf (p :: r)).getLast? = some ((p.1 : Int), (p.2.1 : Int)) ∧ (nowOf (p :: r)).dropLast = nowOf r ∧ (nowOf (p :: r)).isEmpty = false := by
  rw [nowOf_cons]
  refine ⟨by simp, by simp, by simp⟩
theorem pl_step (c : Int) (S T : GS) (k : ByteArray) (i : Nat) (gs : List G) (h : gstep c S k i = some T) (hS : Good S) (hlt : ∀ g ∈ S.gs, ∀ x ∈ g.lines, x < (i : Int)) (E : Ext S gs i) (E' : Ext T gs (i + 1)) (hne : ∀ g ∈ gs, g.lines ≠ []) :
    ∃ o, plStep gs (nowOf S.st) (i : Int) = some (nowOf T.st, o) ∧ (o = nowOf S.st ∨ o = (nowOf S.st).dropLast) ∧ (opens k = false → closes k = false → o = nowOf S.st) := by
  have hold : ∀ (j : Nat) (g y : G), S.gs[j]? = some g → gs[j]? = some y → y.lines.headD 0 < (i : Int) := by
    intro j g y hg hy
    obtain ⟨r, h1, -, -⟩ := E.ext j g y hg hy
    have hm := List.mem_iff_getElem?.2 ⟨j, hg⟩
    have hn := hS.ne g hm
    rw [h1]
    obtain ⟨a, q, hq⟩ := List.exists_cons_of_ne_nil hn
    rw [hq]
    exact hlt g hm a (by rw [hq]; simp)
  have hnew : ∀ (j : Nat) (y : G), T.gs.length ≤ j → gs[j]? = some y → ∀ x ∈ y.lines, (i : Int) < x := fun j y hj hy x hx => by
    have := E'.new j y hj hy x hx; omega
  rcases gstep_cases c S T k i h with ⟨ho, ⟨g, hg, hgs⟩, hst⟩ | ⟨ho, hc, n, b, e, r, F, hs, hF, hgs, hst⟩ | ⟨ho, hc, rfl⟩
  · have hl : T.gs.length = S.gs.length + 1 := by rw [hgs]; simp
    have hj : S.gs.length < gs.length := by have := E'.len; omega
    obtain ⟨r, h1, h2, h3⟩ := E'.ext S.gs.length g gs[S.gs.length] (by rw [hgs, List.getElem?_append_right (Nat.le_refl _), Nat.sub_self]; rfl) (List.getElem?_eq_getElem hj)
    have hop := opener_at gs (i : Int) S.gs.length 0 _ (List.getElem?_eq_getElem hj) (by rw [h1, hg]; rfl) fun j x hjx hx => by
      have := hnew j x (by omega) hx _ (headD_mem (hne x (List.mem_iff_getElem?.2 ⟨j, hx⟩))); omega
    refine ⟨nowOf S.st, ?_, .inl rfl, fun a => by rw [ho] at a; cases a⟩
    unfold plStep
    rw [hop, hst, nowOf_cons, Nat.zero_add]
    rfl
  · have hl : T.gs.length = S.gs.length := by rw [hgs]; simp
    have hd := hS.desc
    rw [hs] at hd
    have hd1 := (List.pairwise_cons.1 hd).1
    have hop : opener gs (i : Int) 0 = none := opener_none gs _ 0 fun y hy => by
      obtain ⟨j, hj⟩ := List.mem_iff_getElem?.1 hy
      by_cases hjl : j < S.gs.length
      · have := hold j _ y (List.getElem?_eq_getElem hjl) hj; omega
      · have := hnew j y (by omega) hj _ (headD_mem (hne y hy)); omega
    have hnl : n < S.gs.length := hS.lt (n, b, e) (by rw [hs]; exact List.mem_cons_self)
    have hng : n < gs.length := Nat.lt_of_lt_of_le hnl E.len
    have hTn : T.gs[n]? = some (F S.gs[n]) := by rw [hgs, List.getElem?_modify, List.getElem?_eq_getElem hnl]; simp
    obtain ⟨r', h1, h2, h3⟩ := E'.ext n _ _ hTn (List.getElem?_eq_getElem hng)
    rw [hF] at h1
    obtain ⟨l1, l2, l3⟩ := nowOf_last (n, b, e) r
    rcases hst with ⟨e1, -⟩ | ⟨e', e1⟩
    · have hr0 : r' = [] := h3.2 fun p hp => by
        rw [e1] at hp
        have := hd1 p hp
        dsimp only at this; omega
      have hend := isEnd_yes gs (i : Int) gs[n] (List.getElem_mem hng) (by rw [h1, hr0, List.append_nil]; simp)
      refine ⟨(nowOf S.st).dropLast, ?_, .inr rfl, fun _ a => by rw [hc] at a; cases a⟩
      unfold plStep
      rw [hop]
      dsimp only
      rw [if_pos hend, hs, l3, l2, if_neg Bool.false_ne_true, e1]
    · have hr0 : r' ≠ [] := fun a => h3.1 a (n, b + 1, e') (by rw [e1]; exact List.mem_cons_self) rfl
      have hend := isEnd_no gs (i : Int) fun y hy => by
        obtain ⟨j, hj⟩ := List.mem_iff_getElem?.1 hy
        by_cases hjl : j < S.gs.length
        · by_cases hjn : j = n
          · subst hjn
            rw [List.getElem?_eq_getElem hng] at hj
            cases hj
            rw [h1]
            rw [getLastD_app _ _ hr0]
            have := h2 _ (getLastD_mem hr0); omega
          · have hTj : T.gs[j]? = some S.gs[j] := by rw [hgs, List.getElem?_modify, List.getElem?_eq_getElem hjl]; simp; intro e; exact absurd e.symm hjn
            obtain ⟨r2, k1, k2, -⟩ := E'.ext j _ y hTj hj
            have hm := getLastD_mem (hne y hy)
            have hm2 : y.lines.getLastD 0 ∈ S.gs[j].lines ++ r2 := by rw [← k1]; exact hm
            rcases List.mem_append.1 hm2 with hm | hm
            · have := hlt _ (List.getElem_mem hjl) _ hm; omega
            · have := k2 _ hm; omega
        · have := hnew j y (by omega) hj _ (getLastD_mem (hne y hy)); omega
      have hoth := isOther_yes gs (i : Int) gs[n] (List.getElem_mem hng) (by
        rw [h1]
        obtain ⟨a, q, hq⟩ := List.exists_cons_of_ne_nil (hS.ne _ (List.getElem_mem hnl))
        rw [hq]; simp)
      refine ⟨(nowOf S.st).dropLast, ?_, .inr rfl, fun _ a => by rw [hc] at a; cases a⟩
      unfold plStep
      rw [hop]
      dsimp only
      rw [hend, if_neg Bool.false_ne_true, if_pos hoth, hs, l1]
      dsimp only
      rw [l2, e1, nowOf_cons]
      rfl
  · have hall : ∀ y ∈ gs, (i : Int) ∉ y.lines := fun y hy hm => by
      obtain ⟨j, hj⟩ := List.mem_iff_getElem?.1 hy
      by_cases hjl : j < T.gs.length
      · obtain ⟨r, h1, h2, -⟩ := E'.ext j _ y (List.getElem?_eq_getElem hjl) hj
        rcases List.mem_append.1 (h1 ▸ hm) with hm | hm
        · have := hlt _ (List.getElem_mem hjl) _ hm; omega
        · have := h2 _ hm; omega
      · have := hnew j y (by omega) hj _ hm; omega
    have hop : opener gs (i : Int) 0 = none := opener_none gs _ 0 fun y hy a => hall y hy (by rw [← a]; exact headD_mem (hne y hy))
    refine ⟨nowOf T.st, ?_, .inl rfl, fun _ _ => rfl⟩
    unfold plStep
    rw [hop]
    dsimp only
    rw [isEnd_no gs _ fun y hy a => hall y hy (by rw [← a]; exact getLastD_mem (hne y hy)), if_neg Bool.false_ne_true, isOther_no gs _ hall, if_neg Bool.false_ne_true]
/-- What is said of a token that is no directive: the branch that it is in, of each group. -/
def InOf (gs : List G) (o : List (Int × Int)) (i : Int) : Prop := ∀ (j : Nat) (y : G), gs[j]? = some y → (∀ b : Int, ((j : Int), b) ∈ o → withinL y.lines i 0 = b ∧ 0 ≤ b) ∧ ((∀ b : Int, ((j : Int), b) ∉ o) → withinL y.lines i 0 = -1)
theorem in_now (S : GS) (i : Nat) (gs : List G) (hS : Good S) (hlt : ∀ g ∈ S.gs, ∀ x ∈ g.lines, x < (i : Int)) (E : Ext S gs (i + 1)) : InOf gs (nowOf S.st) (i : Int) := by
  intro j y hy
  constructor
  · intro b hb
    unfold nowOf at hb
    rw [List.mem_reverse, List.mem_map] at hb
    obtain ⟨p, hp, e⟩ := hb
    simp only [Prod.mk.injEq] at e
    have hj : p.1 = j := by omega
    have hjl := hS.lt p hp
    rw [hj] at hjl
    obtain ⟨r, h1, h2, h3⟩ := E.ext j _ y (List.getElem?_eq_getElem hjl) hy
    have hm := List.getElem_mem hjl
    have hr0 : r ≠ [] := fun a => h3.1 a p hp hj
    have hlen := hS.len p hp S.gs[j] (by rw [hj]; exact List.getElem?_eq_getElem hjl)
    rw [h1, within_in r (i : Int) hr0 (fun x hx => by have := h2 x hx; omega) _ 0 (hS.ne _ hm) (hlt _ hm), hlen]
    omega
  · intro hb
    by_cases hjl : j < S.gs.length
    · obtain ⟨r, h1, h2, h3⟩ := E.ext j _ y (List.getElem?_eq_getElem hjl) hy
      have hr0 : r = [] := h3.2 fun p hp a => by
        refine hb (p.2.1 : Int) ?_
        unfold nowOf
        rw [List.mem_reverse, List.mem_map]
        exact ⟨p, hp, by rw [a]⟩
      rw [h1, hr0, List.append_nil]
      exact within_low _ _ _ (hlt _ (List.getElem_mem hjl))
    · exact within_high _ _ _ fun x hx => by have := E.new j y (by omega) hy x hx; omega
/-- The numbers in what is said of a token. -/
def OkOut (n m : Nat) (o : List (Int × Int)) : Prop := o.length ≤ m ∧ ∀ p ∈ o, 0 ≤ p.1 ∧ p.1 < (n : Int)
theorem ok_now (S : GS) (gs : List G) (hS : Good S) (hl : S.gs.length ≤ gs.length) : OkOut gs.length gs.length (nowOf S.st) := by
  constructor
  · unfold nowOf
    rw [List.length_reverse, List.length_map]
    have hd := hS.desc
    have hb := hS.lt
    have : ∀ (st : List (Nat × Nat × Bool)) (n : Nat), (∀ p ∈ st, p.1 < n) → st.Pairwise (fun p q => q.1 < p.1) → st.length ≤ n := by
      intro st
      induction st with
      | nil => exact fun n _ _ => Nat.zero_le _
      | cons p r ih =>
        intro n h1 h2
        have h3 := List.pairwise_cons.1 h2
        have := ih p.1 h3.1 h3.2
        have := h1 p (by simp)
        simp only [List.length_cons]; omega
    exact Nat.le_trans (this S.st S.gs.length hb hd) hl
  · intro p hp
    unfold nowOf at hp
    rw [List.mem_reverse, List.mem_map] at hp
    obtain ⟨q, hq, rfl⟩ := hp
    have := hS.lt q hq
    dsimp only
    omega
theorem pl_run (c : Int) (gs : List G) (hne : ∀ g ∈ gs, g.lines ≠ []) : ∀ (ks : List ByteArray) (S T : GS) (i : Nat), grun c S ks i = .inl T → T.gs = gs → T.st = [] → Good S → Sm S i →
    ∃ outs, plRun gs (nowOf S.st) i ks.length = some outs ∧ outs.length = ks.length ∧ (∀ o ∈ outs, OkOut gs.length gs.length o) ∧
      ∀ (j : Nat) (k : ByteArray) (o : List (Int × Int)), ks[j]? = some k → outs[j]? = some o → opens k = false → closes k = false → InOf gs o ((i + j : Nat) : Int)
  | [], S, T, i, h, hg, hst, hS, hm => ⟨[], rfl, rfl, by simp, by simp⟩
  | k :: r, S, T, i, h, hg, hst, hS, hm => by
    have E := ext_run c gs (k :: r) S T i h hg hst hS
    unfold grun at h
    cases hq : gstep c S k i with
    | none => rw [hq] at h; cases h
    | some U =>
      rw [hq] at h
      have hU := good_step c S U k i hq hS
      have E' := ext_run c gs r U T (i + 1) h hg hst hU
      have hlt : ∀ g ∈ S.gs, ∀ x ∈ g.lines, x < (i : Int) := fun g hg x hx => ((hm.2 g hg).2 x hx).2
      obtain ⟨o, h1, h2, h3⟩ := pl_step c S U k i gs hq hS hlt E E' hne
      obtain ⟨outs, k1, k2, k3, k4⟩ := pl_run c gs hne r U T (i + 1) h hg hst hU (sm_step c S U k i hq hm)
      refine ⟨o :: outs, ?_, by simp [k2], ?_, ?_⟩
      · rw [List.length_cons]
        unfold plRun
        rw [h1]
        dsimp only
        rw [k1]; rfl
      · intro x hx
        rcases List.mem_cons.1 hx with rfl | hx
        · have hok := ok_now S gs hS E.len
          rcases h2 with rfl | rfl
          · exact hok
          · refine ⟨by rw [List.length_dropLast]; have := hok.1; omega, fun p hp => hok.2 p (List.dropLast_subset _ hp)⟩
        · exact k3 x hx
      · intro j k' o' hk ho' a b
        cases j with
        | zero =>
          simp at hk ho'
          subst hk ho'
          rw [h3 a b]
          have hUS : U = S := by
            rcases gstep_cases c S U k i hq with ⟨x, -⟩ | ⟨-, x, -⟩ | ⟨-, -, x⟩
            · rw [a] at x; cases x
            · rw [b] at x; cases x
            · exact x
          rw [hUS] at E'
          exact in_now S i gs hS hlt E'
        | succ j =>
          have := k4 j k' o' (by simpa using hk) (by simpa using ho') a b
          rw [show i + (j + 1) = i + 1 + j by omega]
          exact this
/-- Where the groups are as said: each group has a branch at least. -/
theorem br_run (c : Int) : ∀ (ks : List ByteArray) (S T : GS) (i : Nat), grun c S ks i = .inl T → Good S → (∀ (j : Nat) (g : G), S.gs[j]? = some g → (∀ p ∈ S.st, p.1 ≠ j) → 0 < g.br) → ∀ (j : Nat) (g : G), T.gs[j]? = some g → (∀ p ∈ T.st, p.1 ≠ j) → 0 < g.br
  | [], S, T, i, h, hS, hb => by unfold grun at h; cases h; exact hb
  | k :: r, S, T, i, h, hS, hb => by
    unfold grun at h
    cases hq : gstep c S k i with
    | none => rw [hq] at h; cases h
    | some U =>
      rw [hq] at h
      refine br_run c r U T (i + 1) h (good_step c S U k i hq hS) ?_
      intro j g hg hst
      rcases gstep_cases c S U k i hq with ⟨ho, ⟨g0, hg0, hgs⟩, hst0⟩ | ⟨ho, hc, n, b, e, r, F, hs, hF, hgs, hst0⟩ | ⟨ho, hc, rfl⟩
      · rw [hst0] at hst
        have hj : S.gs.length ≠ j := hst _ List.mem_cons_self
        rw [hgs] at hg
        by_cases hjl : j < S.gs.length
        · rw [List.getElem?_append_left hjl] at hg
          exact hb j g hg fun p hp => hst p (List.mem_cons_of_mem _ hp)
        · have := (List.getElem?_eq_some_iff.1 hg).1
          simp at this; omega
      · rw [hgs, List.getElem?_modify] at hg
        obtain ⟨g1, h1, rfl⟩ := Option.map_eq_some_iff.1 hg
        by_cases hn : n = j
        · rw [if_pos hn]
          rcases hst0 with ⟨e1, hbr⟩ | ⟨e', e1⟩
          · exact hbr g1 (hS.ne _ (List.mem_iff_getElem?.2 ⟨j, h1⟩))
          · exact absurd hn (hst _ (by rw [e1]; exact List.mem_cons_self))
        · rw [if_neg hn]
          refine hb j g1 h1 fun p hp => ?_
          rw [hs] at hp
          rcases List.mem_cons.1 hp with rfl | hp
          · exact hn
          · rcases hst0 with ⟨e1, -⟩ | ⟨e', e1⟩
            · exact hst p (by rw [e1]; exact hp)
            · exact hst p (by rw [e1]; exact List.mem_cons_of_mem _ hp)
      · exact hb j g hg hst
theorem good_run (c : Int) : ∀ (ks : List ByteArray) (S T : GS) (i : Nat), grun c S ks i = .inl T → Good S → Good T
  | [], S, T, i, h, hS => by unfold grun at h; cases h; exact hS
  | k :: r, S, T, i, h, hS => by
    unfold grun at h
    cases hq : gstep c S k i with
    | none => rw [hq] at h; cases h
    | some U => rw [hq] at h; exact good_run c r U T (i + 1) h (good_step c S U k i hq hS)
/-- **The law of the places.** -/
theorem places_law (ks : List ByteArray) (h : (groups ks).2.1 = 0) : ∃ outs, places (groups ks).1 ks.length = some outs ∧ outs.length = ks.length ∧ (∀ o ∈ outs, OkOut (groups ks).1.length (groups ks).1.length o) ∧ (∀ g ∈ (groups ks).1, 0 < g.br) ∧
    ∀ (j : Nat) (k : ByteArray) (o : List (Int × Int)), ks[j]? = some k → outs[j]? = some o → opens k = false → closes k = false → InOf (groups ks).1 o (j : Int) := by
  unfold groups groupsC at h ⊢
  split at h
  · cases h
  · rename_i hn
    rw [if_neg hn]
    cases hg : grun 0 gs0 ks 0 with
    | inr i => rw [hg] at h; cases h
    | inl S =>
      rw [hg] at h
      dsimp only at h ⊢
      split at h
      · rename_i hst
        rw [if_pos hst]
        have hst := List.isEmpty_iff.1 hst
        have hgd := good_run 0 ks gs0 S 0 hg good0
        obtain ⟨outs, k1, k2, k3, k4⟩ := pl_run 0 S.gs hgd.ne ks gs0 S 0 hg rfl hst good0 sm0
        refine ⟨outs, k1, k2, k3, ?_, fun j k o a b => by have := k4 j k o a b; rw [Nat.zero_add] at this; exact this⟩
        intro g hg0
        obtain ⟨j, hj⟩ := List.mem_iff_getElem?.1 hg0
        exact br_run 0 ks gs0 S 0 hg good0 (by intro j g hg; simp [gs0] at hg) j g hj (by rw [hst]; simp)
      · cases h
/-- Does a choice hide a token, by the groups' lines? -/
def hidL (ch : List Int) (i : Int) : List G → Nat → Bool
  | [], _ => false
  | g :: r, j => (decide (0 ≤ withinL g.lines i 0) && (withinL g.lines i 0 != ch.getD j 0)) || hidL ch i r (j + 1)
theorem hidL_iff (ch : List Int) (i : Int) : ∀ (gs : List G) (m : Nat), hidL ch i gs m = true ↔ ∃ (j : Nat) (y : G), gs[j]? = some y ∧ 0 ≤ withinL y.lines i 0 ∧ withinL y.lines i 0 ≠ ch.getD (m + j) 0
  | [], m => by simp [hidL]
  | g :: r, m => by
    unfold hidL
    rw [Bool.or_eq_true, Bool.and_eq_true, hidL_iff ch i r (m + 1)]
    constructor
    · rintro (⟨h1, h2⟩ | ⟨j, y, h1, h2, h3⟩)
      · exact ⟨0, g, rfl, of_decide_eq_true h1, by simpa using h2⟩
      · exact ⟨j + 1, y, by simpa using h1, h2, by rw [show m + (j + 1) = m + 1 + j by omega]; exact h3⟩
    · rintro ⟨j, y, h1, h2, h3⟩
      cases j with
      | zero => simp at h1; subst h1; exact .inl ⟨decide_eq_true h2, by simpa using h3⟩
      | succ j => exact .inr ⟨j, y, by simpa using h1, h2, by rw [show m + 1 + j = m + (j + 1) by omega]; exact h3⟩
theorem hidden_law (gs : List G) (ch : List Int) (o : List (Int × Int)) (i : Int) (h : InOf gs o i) (hok : OkOut gs.length gs.length o) : hidden ch o = hidL ch i gs 0 := by
  rw [Bool.eq_iff_iff, hidL_iff]
  unfold hidden
  rw [List.any_eq_true]
  constructor
  · rintro ⟨p, hp, h1⟩
    have h2 := hok.2 p hp
    obtain ⟨j, hj⟩ : ∃ j : Nat, p.1 = (j : Int) := ⟨p.1.toNat, by omega⟩
    have hjl : j < gs.length := by omega
    obtain ⟨h3, -⟩ := h j _ (List.getElem?_eq_getElem hjl)
    obtain ⟨h4, h5⟩ := h3 p.2 (by rw [← hj]; exact hp)
    refine ⟨j, _, List.getElem?_eq_getElem hjl, by rw [h4]; exact h5, ?_⟩
    unfold other at h1
    rw [hj, Int.toNat_natCast] at h1
    rw [h4, Nat.zero_add]
    exact fun e => by rw [← e] at h1; simp at h1
  · rintro ⟨j, y, h1, h2, h3⟩
    obtain ⟨h4, h5⟩ := h j y h1
    by_cases hb : ∃ b : Int, ((j : Int), b) ∈ o
    · obtain ⟨b, hb⟩ := hb
      obtain ⟨h6, h7⟩ := h4 b hb
      refine ⟨_, hb, ?_⟩
      unfold other
      dsimp only
      rw [Int.toNat_natCast]
      rw [h6, Nat.zero_add] at h3
      exact bne_iff_ne.2 fun e => h3 e.symm
    · have := h5 fun b hb2 => hb ⟨b, hb2⟩
      omega
/-- Is a token seen, by the groups' lines? -/
def seenR (t : Tok) (ch : List Int) (gs : List G) (i : Int) : Bool := t.k != 7 && (t.k == 0 || !hidL ch i gs 0)
def viewR (ch : List Int) (gs : List G) : List Tok → Nat → List Int
  | [], _ => []
  | t :: r, i => if seenR t ch gs (i : Int) = true then (i : Int) :: viewR ch gs r (i + 1) else viewR ch gs r (i + 1)
theorem view_same (ch : List Int) (gs : List G) : ∀ (L : List Tok) (outs : List (List (Int × Int))) (i : Nat), outs.length = L.length → (∀ (j : Nat) (t : Tok) (o : List (Int × Int)), L[j]? = some t → outs[j]? = some o → t.k ≠ 7 → hidden ch o = hidL ch ((i + j : Nat) : Int) gs 0) → viewL ch L outs i = viewR ch gs L i
  | [], [], i, _, _ => rfl
  | [], _ :: _, i, h, _ => by simp at h
  | _ :: _, [], i, h, _ => by simp at h
  | t :: r, o :: s, i, h, hh => by
    have ih := view_same ch gs r s (i + 1) (by simpa using h) fun j t' o' h1 h2 h3 => by
      have := hh (j + 1) t' o' (by simpa using h1) (by simpa using h2) h3
      rw [show i + 1 + j = i + (j + 1) by omega]; exact this
    have hs : seen t ch o = seenR t ch gs (i : Int) := by
      unfold seen seenR
      by_cases h7 : t.k = 7
      · rw [h7]; rfl
      · have h0 := hh 0 t o rfl rfl h7
        rw [Nat.add_zero] at h0
        have h8 : (t.k != 7) = true := bne_iff_ne.2 h7
        rw [h0, h8, Bool.true_and, Bool.true_and]
    unfold viewL viewR
    rw [hs, ih]
/-- **What a choice shows, by the places and by the lines, is one and the same.** -/
theorem view_law (L : List Tok) (h : (groups (L.map kindOf)).2.1 = 0) : ∃ outs, places (groups (L.map kindOf)).1 L.length = some outs ∧ outs.length = L.length ∧ (∀ o ∈ outs, OkOut (groups (L.map kindOf)).1.length (groups (L.map kindOf)).1.length o) ∧ (∀ g ∈ (groups (L.map kindOf)).1, 0 < g.br) ∧
    ∀ ch : List Int, viewL ch L outs 0 = viewR ch (groups (L.map kindOf)).1 L 0 := by
  obtain ⟨outs, k1, k2, k3, k4, k5⟩ := places_law (L.map kindOf) h
  rw [List.length_map] at k1 k2
  refine ⟨outs, k1, k2, k3, k4, fun ch => view_same ch _ L outs 0 k2 fun j t o h1 h2 h3 => ?_⟩
  have hk : (L.map kindOf)[j]? = some ⟨#[]⟩ := by
    rw [List.getElem?_map, h1, Option.map_some]
    unfold kindOf
    rw [if_neg h3]
  rw [Nat.zero_add]
  exact hidden_law _ ch o _ (k5 j _ o hk h2 (by decide +kernel) (by decide +kernel)) (k3 o (List.mem_of_getElem? h2))
end Lx
end Go.Proofs.YtjnafjgonoficaaGreatDoor
namespace Go.Proofs.YtjnafjgonoficaaGreatDoor
open Go.RowKit Go.Proofs.YtjnafjgonoficaaGreatDoorW.PrintWords
set_option linter.unusedVariables false
set_option linter.unusedSimpArgs false
theorem within_at (l : List Int) (i : Int) (k : Nat) (a b : Int) (ha : l[k]? = some a) (hb : l[k + 1]? = some b) (q : Int) : Lx.withinL (l.drop k) i q = if a < i ∧ i < b then q else Lx.withinL (l.drop (k + 1)) i (q + 1) := by
  obtain ⟨h1, rfl⟩ := List.getElem?_eq_some_iff.1 ha
  obtain ⟨h2, rfl⟩ := List.getElem?_eq_some_iff.1 hb
  rw [List.drop_eq_getElem_cons h1, List.drop_eq_getElem_cons h2]
  rfl
theorem within_end (l : List Int) (i : Int) (k : Nat) (h : l.length ≤ k + 1) (q : Int) : Lx.withinL (l.drop k) i q = -1 := by
  cases hd : l.drop k with
  | nil => rfl
  | cons a r =>
    cases r with
    | nil => rfl
    | cons b r =>
      have := congrArg List.length hd
      simp only [List.length_drop, List.length_cons] at this
      omega
set_option maxRecDepth 100000 in
set_option maxHeartbeats 4000000 in
theorem within_calls (gl m cl : Nat) (br pr bc i : Int) (l : List Int) (w : World) (hl : l.length = m) (hm : m ≤ 1000000) (hc : m ≤ cl) (hI : IntAt w gl 0 l) (hgl : gl < w.heap.size) :
    Calls Tryz.prog 49 #[.agg #[.slice (some ⟨gl, 0, none⟩) m cl, .int .i64 br, .int .i64 pr, .int .i64 bc], .int .i64 i] w fun e w' => e = .returned (.int .i64 (Lx.withinL l i 0)) ∧ w.grownBy w' none := by
  obtain ⟨R, hR⟩ : ∃ R, Lx.withinL l i 0 = R := ⟨_, rfl⟩
  rw [hR]
  have HR := Aside0.mk hR
  have HL := Aside0.mk hl
  have HI := Aside0.mk hI
  have HG := Aside0.mk (World.grownBy_alloc w (.cells #[.slice (some ⟨gl, 0, none⟩) m cl, .int .i64 br, .int .i64 pr, .int .i64 bc] 42) none)
  have c0 : (w.alloc (.cells #[.slice (some ⟨gl, 0, none⟩) m cl, .int .i64 br, .int .i64 pr, .int .i64 bc] 42)).cell? ⟨w.heap.size, 0, none⟩ = some (.slice (some ⟨gl, 0, none⟩) m cl) := by rw [blk_cell (blk_new w _)]; rfl
  clear hR hl hI
  go_enter Tryz.func49, Tryz.ntmps49
  go_wp2_with fail
  go_loopg [5] (m + 1) (fun kq v5 W => ∃ k : Nat, v5 = .int .i64 k ∧ Aside0 (k ≤ m ∧ kq = m + 1 - k ∧ Lx.withinL (l.drop k) i k = R) ∧ W = (w.alloc (.cells #[.slice (some ⟨gl, 0, none⟩) m cl, .int .i64 br, .int .i64 pr, .int .i64 bc] 42)))
  case atStart => exact ⟨0, rfl, ⟨by omega, by omega, HR.out⟩, rfl⟩
  case round =>
    obtain ⟨k, rfl, HJ, rfl⟩ := hrel
    have hk := HJ.out.1
    have hw1 : IntKind.i64.wrap ((k : Int) + 1) = (k : Int) + 1 := IntWalk.i64_in _ (by omega)
    by_cases hlt : k + 1 < m
    · obtain ⟨a, ha⟩ : ∃ a, l[k]? = some a := ⟨_, List.getElem?_eq_getElem (by have := HL.out; omega)⟩
      obtain ⟨b, hb⟩ : ∃ b, l[k + 1]? = some b := ⟨_, List.getElem?_eq_getElem (by have := HL.out; omega)⟩
      have x0 := HG.out.cell (HI.out k a ha) (by simp)
      have x1 := HG.out.cell (HI.out (k + 1) b hb) (by simp)
      rw [Nat.zero_add] at x0 x1
      have hwn := HJ.out.2.2
      rw [within_at l i k a b ha hb] at hwn
      have HWN := Aside0.mk hwn
      have hkm : ((k : Int) + 1 < (m : Int)) := by omega
      have hcst : ((k + 1 : Nat) : Int) = (k : Int) + 1 := by omega
      have hmc : m ≤ cl := hc
      obtain ⟨p1, hp1⟩ : ∃ p1, decide (a < i) = p1 := ⟨_, rfl⟩
      obtain ⟨p2, hp2⟩ : ∃ p2, decide (i < b) = p2 := ⟨_, rfl⟩
      have HP1 := Aside0.mk hp1
      have HP2 := Aside0.mk hp2
      clear ha hb hwn
      cases p1
      · have h0 := HWN.out
        rw [if_neg (fun h => of_decide_eq_false HP1.out h.1)] at h0
        have HH := Aside0.mk h0
        clear h0
        go_wp2_with fail
        go_roundg (m + 1 - (k + 1))
        case measure => have := HJ.out.2.1; omega
        case rel => exact ⟨k + 1, by go_num, ⟨by omega, rfl, by rw [hcst]; exact HH.out⟩, rfl⟩
      · cases p2
        · have h0 := HWN.out
          rw [if_neg (fun h => of_decide_eq_false HP2.out h.2)] at h0
          have HH := Aside0.mk h0
          clear h0
          go_wp2_with fail
          go_roundg (m + 1 - (k + 1))
          case measure => have := HJ.out.2.1; omega
          case rel => exact ⟨k + 1, by go_num, ⟨by omega, rfl, by rw [hcst]; exact HH.out⟩, rfl⟩
        · have h0 := HWN.out
          rw [if_pos ⟨of_decide_eq_true HP1.out, of_decide_eq_true HP2.out⟩] at h0
          have HH := Aside0.mk h0
          clear h0
          go_wp2_with fail
          go_ret
          exact ⟨by rw [HH.out]; rfl, HG.out⟩
    · have hwn := HJ.out.2.2
      rw [within_end l i k (by have := HL.out; omega)] at hwn
      have hkm : ¬ ((k : Int) + 1 < (m : Int)) := by omega
      have HWN := Aside0.mk hwn
      clear hwn
      go_wp2_with fail
      go_ret
      exact ⟨by rw [← HWN.out]; rfl, HG.out⟩
set_option maxRecDepth 100000 in
theorem refview_err (v : Value) (CA : Option Addr) (CN CC : Nat) (L : List Lx.Tok) (w : World) (hT : Tks w v L) (hlen : L.length ≤ 100000) (hs : ∀ t ∈ L, t.t.size ≤ 20000)
    (E : Int) (hE : (Lx.groups (L.map Lx.kindOf)).2.1 = E) (hne : (E != 0) = true) :
    Calls Tryz.prog 21 #[v, .slice CA CN CC] w fun e w' => e = .returned (.tuple #[.slice none 0 0, .int .i64 E]) ∧ Below w.heap.size w w' := by
  have hg := refGroups_calls v L w hT hlen hs
  rw [hE] at hg
  have HG := Aside0.mk hg
  clear hg hE hT hs
  go_enter Tryz.func21, Tryz.ntmps21
  go_wp2_with (first | (go_at_call 17; (refine HG.out.mono ?_); rintro e w1 ⟨gv, rfl, hgrp, hb⟩; have HB := Aside0.mk hb; clear hgrp hb))
  go_ret2
  exact ⟨rfl, HB.out⟩
set_option maxRecDepth 100000 in
theorem reffirst_err (v : Value) (L : List Lx.Tok) (w : World) (hT : Tks w v L) (hlen : L.length ≤ 100000) (hs : ∀ t ∈ L, t.t.size ≤ 20000)
    (E : Int) (hE : (Lx.groups (L.map Lx.kindOf)).2.1 = E) (hne : (E != 0) = true) :
    Calls Tryz.prog 23 #[v] w fun e w' => e = .returned (.tuple #[.slice none 0 0, .int .i64 E]) ∧ Below w.heap.size w w' := by
  have hg := refGroups_calls v L w hT hlen hs
  rw [hE] at hg
  have HG := Aside0.mk hg
  clear hg hE hT hs
  go_enter Tryz.func23, Tryz.ntmps23
  go_wp2_with (first | (go_at_call 17; (refine HG.out.mono ?_); rintro e w1 ⟨gv, rfl, hgrp, hb⟩; have HB := Aside0.mk hb; clear hgrp hb))
  go_ret2
  exact ⟨rfl, HB.out⟩
theorem hidL_snoc (ch : List Int) (i : Int) (g : Lx.G) : ∀ (gs : List Lx.G) (m : Nat), Lx.hidL ch i (gs ++ [g]) m = (Lx.hidL ch i gs m || (decide (0 ≤ Lx.withinL g.lines i 0) && (Lx.withinL g.lines i 0 != ch.getD (m + gs.length) 0)))
  | [], m => by simp [Lx.hidL]
  | x :: r, m => by
    simp only [List.cons_append, Lx.hidL, hidL_snoc ch i g r (m + 1), List.length_cons, Bool.or_assoc]
    rw [show m + 1 + r.length = m + (r.length + 1) by omega]
/-- Is a token seen, as far as the groups are gone through? -/
def seenTo (t : Lx.Tok) (ch : List Int) (gs : List Lx.G) (i : Int) (k : Nat) : Bool := t.k != 7 && (t.k == 0 || !Lx.hidL ch i (gs.take k) 0)
theorem seenTo_zero (t : Lx.Tok) (ch : List Int) (gs : List Lx.G) (i : Int) : seenTo t ch gs i 0 = (t.k != 7) := by
  unfold seenTo
  simp [Lx.hidL]
theorem seenTo_all (t : Lx.Tok) (ch : List Int) (gs : List Lx.G) (i : Int) : seenTo t ch gs i gs.length = Lx.seenR t ch gs i := by
  unfold seenTo Lx.seenR
  rw [List.take_length]
theorem seenTo_step (t : Lx.Tok) (ch : List Int) (gs : List Lx.G) (i : Int) (k : Nat) (g : Lx.G) (x b : Int) (hg : gs[k]? = some g) (hx : ch[k]? = some x) (hb : Lx.withinL g.lines i 0 = b) :
    seenTo t ch gs i (k + 1) = (seenTo t ch gs i k && (decide (b < 0) || (b == x) || (t.k == 0))) := by
  unfold seenTo
  have hk := (List.getElem?_eq_some_iff.1 hg).1
  rw [take_snoc gs k g hg, hidL_snoc, hb, Nat.zero_add, List.length_take, Nat.min_eq_left (by omega), List.getD_eq_getElem?_getD, hx, Option.getD_some]
  have h0 : decide (0 ≤ b) = !decide (b < 0) := by
    by_cases h : b < 0
    · rw [decide_eq_true h, decide_eq_false (by omega)]; rfl
    · rw [decide_eq_false h, decide_eq_true (by omega)]; rfl
  rw [h0]
  have h1 : (b != x) = !(b == x) := rfl
  rw [h1]
  cases (t.k != 7) <;> cases (t.k == 0) <;> cases (Lx.hidL ch i (gs.take k) 0) <;> cases (decide (b < 0)) <;> cases (b == x) <;> rfl
theorem viewR_at (ch : List Int) (gs : List Lx.G) (L : List Lx.Tok) (i : Nat) (t : Lx.Tok) (h : L[i]? = some t) : Lx.viewR ch gs (L.drop i) i = if Lx.seenR t ch gs (i : Int) = true then (i : Int) :: Lx.viewR ch gs (L.drop (i + 1)) (i + 1) else Lx.viewR ch gs (L.drop (i + 1)) (i + 1) := by
  obtain ⟨a, rfl⟩ := List.getElem?_eq_some_iff.1 h
  rw [List.drop_eq_getElem_cons a]
  rfl
end Go.Proofs.YtjnafjgonoficaaGreatDoor
namespace Go.Proofs.YtjnafjgonoficaaGreatDoor
open Go.RowKit Go.Proofs.YtjnafjgonoficaaGreatDoorW.PrintWords
set_option linter.unusedVariables false
set_option linter.unusedSimpArgs false
set_option maxRecDepth 100000 in
set_option maxHeartbeats 8000000 in
theorem refview_range (v cv : Value) (L : List Lx.Tok) (ch : List Int) (w : World) (hT : Tks w v L) (hI : Ints w cv ch) (hlen : L.length ≤ 100000) (hcl : ch.length ≤ 1000000) (hs : ∀ t ∈ L, t.t.size ≤ 20000)
    (hE : (Lx.groups (L.map Lx.kindOf)).2.1 = 0) (hSm : Lx.Small (Lx.groups (L.map Lx.kindOf)).1)
    (hbad : ch.length ≠ (Lx.groups (L.map Lx.kindOf)).1.length ∨ ∃ i, badAt ch (Lx.groups (L.map Lx.kindOf)).1 i) :
    Calls Tryz.prog 21 #[v, cv] w fun e w' => e = .returned (.tuple #[.slice none 0 0, .int .i64 1]) ∧ Below w.heap.size w w' := by
  have hpl := refGroups_calls v L w hT hlen hs
  have hgl := hSm.1
  obtain ⟨gs, hgs⟩ : ∃ gs, (Lx.groups (L.map Lx.kindOf)).1 = gs := ⟨_, rfl⟩
  rw [hgs] at hbad hgl hpl
  rw [hE] at hpl
  have HPL := Aside0.mk hpl
  have HI2 := Aside0.mk hI
  obtain ⟨CA, CC, rfl, hd1, hd2, hCA⟩ := hI
  obtain ⟨gn, hgn⟩ : ∃ gn, gs.length = gn := ⟨_, rfl⟩
  obtain ⟨cn, hcn⟩ : ∃ cn, ch.length = cn := ⟨_, rfl⟩
  rw [hcn] at HI2 hd1 hcl ⊢
  rw [hgn] at hgl
  have HGN := Aside0.mk hgn
  have HCN := Aside0.mk hcn
  have HBAD := Aside0.mk hbad
  clear hs hE hSm hpl hCA hgs hgn hcn hT hbad
  by_cases hne : cn = gn
  · subst hne
    have HEX := Aside0.mk (show ∃ i, badAt ch gs i from HBAD.out.resolve_left (fun e => e (by rw [HCN.out, HGN.out])))
    clear HBAD
    go_enter Tryz.func21, Tryz.ntmps21
    go_wp2_with (go_at_call 17; (refine HPL.out.mono ?_); rintro e w1 ⟨gv, rfl, hgrp, hb⟩; have HGRP := Aside0.mk hgrp; have HB := Aside0.mk hb; have hgv : ∃ A c, gv = .slice A cn c := (by obtain ⟨ls, e1, e2, e3⟩ := hgrp; rw [HGN.out] at e2; exact own_slice e2); obtain ⟨GA, GC, rfl⟩ := hgv; clear hgrp hb)
    go_loopg [9] cn (fun kq v9 W => ∃ i : Nat, v9 = .int .i64 i ∧ Aside0 (i ≤ cn ∧ kq = cn - i ∧ ∀ j, j < i → ¬ badAt ch gs j) ∧ Aside0 (w1.grownBy W none))
    case atStart => exact ⟨0, rfl, ⟨by omega, rfl, fun j hj => absurd hj (Nat.not_lt_zero j)⟩, ⟨World.grownBy.refl _ _⟩⟩
    case round =>
      obtain ⟨i, rfl, HJ, HW⟩ := hrel
      have hi := HJ.out.1
      by_cases hlt : i < cn
      · obtain ⟨g, hg⟩ : ∃ g, gs[i]? = some g := ⟨_, List.getElem?_eq_getElem (by have := HGN.out; omega)⟩
        obtain ⟨x, hx⟩ : ∃ x, ch[i]? = some x := ⟨_, List.getElem?_eq_getElem (by have := HCN.out; omega)⟩
        obtain ⟨gb, c', gl, cl, hgv, a0, a1, a2, a3, -, -, -, -, hgb1, -⟩ := HGRP.out.at i g hg
        simp only [Value.slice.injEq] at hgv
        obtain ⟨rfl, -, rfl⟩ := hgv
        have a0 := HW.out.cell a0 (by simp)
        have a1 := HW.out.cell a1 (by simp)
        have a2 := HW.out.cell a2 (by simp)
        have a3 := HW.out.cell a3 (by simp)
        obtain ⟨CA', CC', e1, -, -, hor⟩ := HI2.out.below HB.out
        rw [HCN.out] at e1
        simp only [Value.slice.injEq] at e1
        obtain ⟨rfl, -, rfl⟩ := e1
        obtain ⟨cg, co, rfl, hat, hcgl⟩ := hor.resolve_left (fun e => by rw [e] at hx; simp at hx)
        have x0 := HW.out.cell (hat i x hx) (by simp)
        have hcgw : cg < wr.heap.size := Nat.lt_of_lt_of_le hcgl HW.out.size
        have hgbw : gb < wr.heap.size := Nat.lt_of_lt_of_le hgb1 HW.out.size
        have HBI := Aside0.mk (show badAt ch gs i ↔ (x < 0 ∨ g.br ≤ x) from ⟨fun ⟨x', g', e1, e2, e3⟩ => by rw [hx] at e1; rw [hg] at e2; cases e1; cases e2; exact e3, fun e => ⟨x, g, hx, hg, e⟩⟩)
        obtain ⟨p1, hp1⟩ : ∃ p1, decide (x < 0) = p1 := ⟨_, rfl⟩
        obtain ⟨p2, hp2⟩ : ∃ p2, decide (g.br ≤ x) = p2 := ⟨_, rfl⟩
        have HP1 := Aside0.mk hp1
        have HP2 := Aside0.mk hp2
        clear hg hx hor hat hcgl hgb1
        have hi0 : (0 : Int) ≤ (i : Int) := Int.natCast_nonneg _
        have hin : (i : Int) < (cn : Int) := by omega
        cases p1
        · cases p2
          · go_wp2_with fail
            go_quiet (fail)
            go_wp2_with fail
            go_roundg (cn - (i + 1))
            case measure => have := HJ.out; omega
            case rel =>
              refine ⟨i + 1, by go_num, ⟨by omega, rfl, fun j hj => ?_⟩, ⟨grown_drewN HW.out _⟩⟩
              rcases Nat.lt_or_ge j i with h | h
              · exact HJ.out.2.2 j h
              · obtain rfl : j = i := by omega
                rw [HBI.out]
                rintro (h1 | h1)
                · exact of_decide_eq_false HP1.out h1
                · exact of_decide_eq_false HP2.out h1
          · go_wp2_with fail
            go_quiet (fail)
            go_wp2_with fail
            go_ret2
            exact ⟨rfl, HB.out.grown (grown_drewN HW.out _) HB.out.size (fun k hk => by cases hk)⟩
        · go_wp2_with fail
          go_quiet (fail)
          go_wp2_with fail
          go_ret2
          exact ⟨rfl, HB.out.grown (grown_drewN HW.out _) HB.out.size (fun k hk => by cases hk)⟩
      · obtain ⟨j, hj⟩ := HEX.out
        have hjl : j < cn := by
          obtain ⟨x, g, h1, -⟩ := hj
          have := (List.getElem?_eq_some_iff.1 h1).1
          have := HCN.out; omega
        exact absurd hj (HJ.out.2.2 j (by omega))
  · have hd : ((cn : Int) == (gn : Int)) = false := by rw [beq_eq_false_iff_ne]; omega
    clear HBAD
    go_enter Tryz.func21, Tryz.ntmps21
    go_wp2_with (go_at_call 17; (refine HPL.out.mono ?_); rintro e w1 ⟨gv, rfl, hgrp, hb⟩; have HB := Aside0.mk hb; have hgv : ∃ A c, gv = .slice A gn c := (by obtain ⟨ls, e1, e2, e3⟩ := hgrp; rw [HGN.out] at e2; exact own_slice e2); obtain ⟨GA, GC, rfl⟩ := hgv; clear hgrp hb)
    go_ret2
    exact ⟨rfl, HB.out⟩
set_option maxRecDepth 100000 in
set_option maxHeartbeats 16000000 in
theorem refview_calls (v cv : Value) (L : List Lx.Tok) (ch : List Int) (w : World) (hT : Tks w v L) (hI : Ints w cv ch) (hlen : L.length ≤ 100000) (hcl : ch.length ≤ 1000000) (hs : ∀ t ∈ L, t.t.size ≤ 20000)
    (hE : (Lx.groups (L.map Lx.kindOf)).2.1 = 0) (hSm : Lx.Small (Lx.groups (L.map Lx.kindOf)).1)
    (hlc : ch.length = (Lx.groups (L.map Lx.kindOf)).1.length) (hok : ∀ i, ¬ badAt ch (Lx.groups (L.map Lx.kindOf)).1 i) :
    Calls Tryz.prog 21 #[v, cv] w fun e w' => ∃ rv, e = .returned (.tuple #[rv, .int .i64 0]) ∧ w'.ownsRow w.heap.size 3 1 rv (Lx.viewR ch (Lx.groups (L.map Lx.kindOf)).1 L 0).length (intCells (Lx.viewR ch (Lx.groups (L.map Lx.kindOf)).1 L 0)) ∧ Below w.heap.size w w' := by
  have hpl := refGroups_calls v L w hT hlen hs
  have hgl := hSm.1
  obtain ⟨gs, hgs⟩ : ∃ gs, (Lx.groups (L.map Lx.kindOf)).1 = gs := ⟨_, rfl⟩
  rw [hgs] at hlc hok hgl hpl hSm ⊢
  rw [hE] at hpl
  obtain ⟨PZ, hPZ⟩ : ∃ PZ, (Lx.groups (L.map Lx.kindOf)).2.2 = PZ := ⟨_, rfl⟩
  rw [hPZ] at hpl
  clear hPZ
  have HPL := Aside0.mk hpl
  have HI2 := Aside0.mk hI
  have HTT := Aside0.mk hT
  have HSM := Aside0.mk hSm
  obtain ⟨CA, CC, rfl, hd1, hd2, hCA⟩ := hI
  obtain ⟨n, hn⟩ : ∃ n, L.length = n := ⟨_, rfl⟩
  obtain ⟨A, c, rfl, hc1, hc2, hA⟩ := hT
  obtain ⟨cn, hcn⟩ : ∃ cn, ch.length = cn := ⟨_, rfl⟩
  rw [hcn] at HI2 hd1 hcl hlc ⊢
  rw [hn] at hlen hc1 HPL HTT ⊢
  have HGN := Aside0.mk hlc.symm
  have HCN := Aside0.mk hcn
  have HN := Aside0.mk hn
  have HOK := Aside0.mk hok
  have hgn5 : cn ≤ 100000 := by omega
  obtain ⟨full, hfull⟩ : ∃ full, Lx.viewR ch gs L 0 = full := ⟨_, rfl⟩
  have HFULL := Aside0.mk hfull
  rw [hfull]
  clear hs hE hSm hpl hCA hgs hcn hok hlc hgl hfull hn hA
  go_enter Tryz.func21, Tryz.ntmps21
  go_wp2_with (go_at_call 17; (refine HPL.out.mono ?_); rintro e w1 ⟨gv, rfl, hgrp, hb⟩; have HGRP := Aside0.mk hgrp; have HB := Aside0.mk hb; have hgv : ∃ A c, gv = .slice A cn c := (by obtain ⟨ls, e1, e2, e3⟩ := hgrp; rw [HGN.out] at e2; exact own_slice e2); obtain ⟨GA, GC, rfl⟩ := hgv; clear hgrp hb)
  go_loopg [9] cn (fun kq v9 W => ∃ i : Nat, v9 = .int .i64 i ∧ Aside0 (i ≤ cn ∧ kq = cn - i) ∧ Aside0 (w1.grownBy W none))
  case atStart => exact ⟨0, rfl, ⟨by omega, rfl⟩, ⟨World.grownBy.refl _ _⟩⟩
  case round =>
    obtain ⟨i, rfl, HJ, HW⟩ := hrel
    have hi := HJ.out.1
    by_cases hlt : i < cn
    · obtain ⟨g, hg⟩ : ∃ g, gs[i]? = some g := ⟨_, List.getElem?_eq_getElem (by have := HGN.out; omega)⟩
      obtain ⟨x, hx⟩ : ∃ x, ch[i]? = some x := ⟨_, List.getElem?_eq_getElem (by have := HCN.out; omega)⟩
      obtain ⟨gb, c', gl, cl, hgv, a0, a1, a2, a3, -, -, -, -, hgb1, -⟩ := HGRP.out.at i g hg
      simp only [Value.slice.injEq] at hgv
      obtain ⟨rfl, -, rfl⟩ := hgv
      have a0 := HW.out.cell a0 (by simp)
      have a1 := HW.out.cell a1 (by simp)
      have a2 := HW.out.cell a2 (by simp)
      have a3 := HW.out.cell a3 (by simp)
      obtain ⟨CA', CC', e1, -, -, hor⟩ := HI2.out.below HB.out
      rw [HCN.out] at e1
      simp only [Value.slice.injEq] at e1
      obtain ⟨rfl, -, rfl⟩ := e1
      obtain ⟨cg, co, rfl, hat, hcgl⟩ := hor.resolve_left (fun e => by rw [e] at hx; simp at hx)
      have x0 := HW.out.cell (hat i x hx) (by simp)
      have hcgw : cg < wr.heap.size := Nat.lt_of_lt_of_le hcgl HW.out.size
      have hgbw : gb < wr.heap.size := Nat.lt_of_lt_of_le hgb1 HW.out.size
      have HBI := Aside0.mk (show badAt ch gs i ↔ (x < 0 ∨ g.br ≤ x) from ⟨fun ⟨x', g', e1, e2, e3⟩ => by rw [hx] at e1; rw [hg] at e2; cases e1; cases e2; exact e3, fun e => ⟨x, g, hx, hg, e⟩⟩)
      obtain ⟨p1, hp1⟩ : ∃ p1, decide (x < 0) = p1 := ⟨_, rfl⟩
      obtain ⟨p2, hp2⟩ : ∃ p2, decide (g.br ≤ x) = p2 := ⟨_, rfl⟩
      have HP1 := Aside0.mk hp1
      have HP2 := Aside0.mk hp2
      clear hg hx hor hat hcgl hgb1
      have hi0 : (0 : Int) ≤ (i : Int) := Int.natCast_nonneg _
      have hin : (i : Int) < (cn : Int) := by omega
      have hno := HOK.out i
      rw [HBI.out] at hno
      have e1 : p1 = false := by rw [← HP1.out]; exact decide_eq_false fun h => hno (.inl h)
      have e2 : p2 = false := by rw [← HP2.out]; exact decide_eq_false fun h => hno (.inr h)
      subst e1 e2
      clear hno
      go_wp2_with fail
      go_quiet (fail)
      go_wp2_with fail
      go_roundg (cn - (i + 1))
      case measure => have := HJ.out; omega
      case rel => exact ⟨i + 1, by go_num, ⟨by omega, rfl⟩, ⟨grown_drewN HW.out _⟩⟩
    · obtain rfl : i = cn := by omega
      obtain ⟨w2, rfl⟩ : ∃ w2, w2 = wr := ⟨_, rfl⟩
      obtain ⟨b2, hb2⟩ : ∃ b2, w2.heap.size = b2 := ⟨_, rfl⟩
      have HB2 := Aside0.mk hb2
      have hbw2 : Below w.heap.size w w2 := HB.out.grown HW.out HB.out.size (fun k hk => by cases hk)
      have HBW2 := Aside0.mk hbw2
      have hsb : b2 ≤ w2.heap.size := by omega
      have hwb2 : w.heap.size ≤ b2 := by have := hbw2.size; omega
      clear hlt hb2 hbw2 hi
      go_wp2_with fail
      go_loopg [10, 11] n (fun kq v10 v11 W => ∃ (j : Nat) (acc : List Int), v11 = .int .i64 j ∧ Aside0 (j ≤ n ∧ kq = n - j ∧ acc.length ≤ j ∧ acc ++ Lx.viewR ch gs (L.drop j) j = full) ∧ Aside0 (W.ownsRow b2 3 1 v10 acc.length (intCells acc)) ∧ Aside0 (Below b2 w2 W) ∧ b2 ≤ W.heap.size)
      case atStart => exact ⟨0, [], rfl, ⟨by omega, rfl, Nat.le_refl _, HFULL.out⟩, ⟨own_nil _ _ _ _⟩, ⟨Below.refl _ _⟩, hsb⟩
      case round =>
        obtain ⟨j, acc, rfl, HK, HACC, HBK, hszk⟩ := hrel
        have hj := HK.out.1
        obtain ⟨A10, c10, rfl⟩ := own_slice HACC.out
        obtain ⟨al, hal⟩ : ∃ al, acc.length = al := ⟨_, rfl⟩
        have HAL := Aside0.mk hal
        rw [hal] at HACC ⊢
        obtain ⟨wq, rfl⟩ : ∃ wq, wq = wr := ⟨_, rfl⟩
        by_cases hjl : j < n
        · obtain ⟨t, ht⟩ : ∃ t, L[j]? = some t := ⟨_, List.getElem?_eq_getElem (by have := HN.out; omega)⟩
          have hall : Below w.heap.size w wq := HBW2.out.trans (HBK.out.mono hwb2)
          obtain ⟨A', c', e1, -, -, hor⟩ := HTT.out.below hall
          rw [HN.out] at e1
          simp only [Value.slice.injEq] at e1
          obtain ⟨rfl, -, rfl⟩ := e1
          obtain ⟨tg, o1, rfl, hta, htgl⟩ := hor.resolve_left (fun e => by rw [e] at ht; simp at ht)
          obtain ⟨a0, a1, a2, a3⟩ := hta j t ht
          have hva := viewR_at ch gs L j t ht
          have hfl := HK.out.2.2.2
          rw [hva] at hfl
          have HFL := Aside0.mk hfl
          have hal2 : al ≤ j := by rw [← hal]; exact HK.out.2.2.1
          have HTK := Aside0.mk ht
          have hj0 : (0 : Int) ≤ (j : Int) := Int.natCast_nonneg _
          have hjn : (j : Int) < (n : Int) := by omega
          clear ht hta hor hva hfl a1 a2 a3 hall hal
          go_wp2_with fail
          have hw2q : w2.grownBy wq none := grown_below (World.grownBy.refl w2 none) (by rw [HB2.out]; exact HBK.out)
          have HW2Q := Aside0.mk hw2q
          clear hw2q
          go_loopg [12, 13] i (fun kq v12 v13 W => ∃ k : Nat, v13 = .int .i64 k ∧ v12 = .bool (seenTo t ch gs (j : Int) k) ∧ Aside0 (k ≤ i ∧ kq = i - k) ∧ Aside0 (wq.grownBy W none))
          case atStart => exact ⟨0, rfl, by rw [seenTo_zero], ⟨by omega, rfl⟩, ⟨World.grownBy.refl _ _⟩⟩
          case round =>
            obtain ⟨k, rfl, rfl, HKI, HWI⟩ := hrel
            have hki := HKI.out.1
            obtain ⟨sv, hsv⟩ : ∃ sv, seenTo t ch gs (j : Int) k = sv := ⟨_, rfl⟩
            have HSV := Aside0.mk hsv
            rw [hsv]
            clear hsv
            have q0 := HWI.out.cell a0 (by simp)
            have htgw : tg < wr.heap.size := Nat.lt_of_lt_of_le htgl HWI.out.size
            by_cases hkl : k < i
            · have hg1 : w1.grownBy wr none := grown_trans HW.out (grown_trans HW2Q.out HWI.out)
              obtain ⟨g, hg⟩ : ∃ g, gs[k]? = some g := ⟨_, List.getElem?_eq_getElem (by have := HGN.out; omega)⟩
              obtain ⟨x, hx⟩ : ∃ x, ch[k]? = some x := ⟨_, List.getElem?_eq_getElem (by have := HCN.out; omega)⟩
              obtain ⟨gb, c', gl, cl, hgv, g0, g1, g2, g3, -, k1, k2, hgl, hgb1, hat⟩ := HGRP.out.at k g hg
              simp only [Value.slice.injEq] at hgv
              obtain ⟨rfl, -, rfl⟩ := hgv
              have g0 := hg1.cell g0 (by simp)
              have g1 := hg1.cell g1 (by simp)
              have g2 := hg1.cell g2 (by simp)
              have g3 := hg1.cell g3 (by simp)
              obtain ⟨CA', CC', e1, -, -, hor⟩ := HI2.out.below HB.out
              rw [HCN.out] at e1
              simp only [Value.slice.injEq] at e1
              obtain ⟨rfl, -, rfl⟩ := e1
              obtain ⟨cg, co, rfl, hct, hcgl⟩ := hor.resolve_left (fun e => by rw [e] at hx; simp at hx)
              have x0 := hg1.cell (hct k x hx) (by simp)
              have hcgw : cg < wr.heap.size := Nat.lt_of_lt_of_le hcgl hg1.size
              have hgbw : gb < wr.heap.size := Nat.lt_of_lt_of_le hgb1 hg1.size
              obtain ⟨gm, hgm⟩ : ∃ gm, g.lines.length = gm := ⟨_, rfl⟩
              have hgm6 : gm ≤ 1000000 := by have := (HSM.out.2 g (List.mem_of_getElem? hg)).1; omega
              have hwc := within_calls gl gm cl g.br g.par g.bch (j : Int) g.lines wr hgm hgm6 (by omega) (fun a b hab => hg1.cell (hat a b hab) (by simp)) (Nat.lt_of_lt_of_le hgl hg1.size)
              obtain ⟨b, hb⟩ : ∃ b, Lx.withinL g.lines (j : Int) 0 = b := ⟨_, rfl⟩
              rw [hb] at hwc
              rw [hgm] at g0
              have hst := seenTo_step t ch gs (j : Int) k g x b hg hx hb
              rw [HSV.out] at hst
              obtain ⟨br, hbr⟩ : ∃ br, g.br = br := ⟨_, rfl⟩
              obtain ⟨pr, hpr⟩ : ∃ pr, g.par = pr := ⟨_, rfl⟩
              obtain ⟨bc, hbc⟩ : ∃ bc, g.bch = bc := ⟨_, rfl⟩
              rw [hbr] at g1 hwc
              rw [hpr] at g2 hwc
              rw [hbc] at g3 hwc
              have HWC := Aside0.mk hwc
              obtain ⟨p1, hp1⟩ : ∃ p1, decide (b < 0) = p1 := ⟨_, rfl⟩
              obtain ⟨p2, hp2⟩ : ∃ p2, (b == x) = p2 := ⟨_, rfl⟩
              obtain ⟨p3, hp3⟩ : ∃ p3, (t.k == 0) = p3 := ⟨_, rfl⟩
              rw [hp1, hp2, hp3] at hst
              have HST := Aside0.mk hst
              have hk0 : (0 : Int) ≤ (k : Int) := Int.natCast_nonneg _
              have hkn : (k : Int) < (i : Int) := by omega
              clear hg hx hor hct hcgl hgb1 hat hgl k1 k2 hwc hst hgm hb hbr hpr hbc hg1 hgm6
              cases sv
              · clear hp1 hp2 hp3
                go_wp2_with (go_at_call 49; (with_reducible refine HWC.out.mono ?_); rintro e w3 ⟨rfl, hg3⟩; have y0 := hg3.cell q0 (by simp); have u0 := hg3.cell x0 (by simp); have HG3 := Aside0.mk (grown_trans HWI.out hg3); have hcg3 : cg < w3.heap.size := Nat.lt_of_lt_of_le hcgw hg3.size; have htg3 : tg < w3.heap.size := Nat.lt_of_lt_of_le htgw hg3.size; clear hg3)
                go_roundg (i - (k + 1))
                case measure => have := HKI.out; omega
                case rel => exact ⟨k + 1, by go_num, by rw [HST.out]; rfl, ⟨by omega, rfl⟩, HG3⟩
              · cases p1
                · cases p2
                  · cases p3
                    · go_wp2_with (go_at_call 49; (with_reducible refine HWC.out.mono ?_); rintro e w3 ⟨rfl, hg3⟩; have y0 := hg3.cell q0 (by simp); have u0 := hg3.cell x0 (by simp); have HG3 := Aside0.mk (grown_trans HWI.out hg3); have hcg3 : cg < w3.heap.size := Nat.lt_of_lt_of_le hcgw hg3.size; have htg3 : tg < w3.heap.size := Nat.lt_of_lt_of_le htgw hg3.size; clear hg3)
                      go_roundg (i - (k + 1))
                      case measure => have := HKI.out; omega
                      case rel => exact ⟨k + 1, by go_num, by rw [HST.out]; rfl, ⟨by omega, rfl⟩, HG3⟩
                    · go_wp2_with (go_at_call 49; (with_reducible refine HWC.out.mono ?_); rintro e w3 ⟨rfl, hg3⟩; have y0 := hg3.cell q0 (by simp); have u0 := hg3.cell x0 (by simp); have HG3 := Aside0.mk (grown_trans HWI.out hg3); have hcg3 : cg < w3.heap.size := Nat.lt_of_lt_of_le hcgw hg3.size; have htg3 : tg < w3.heap.size := Nat.lt_of_lt_of_le htgw hg3.size; clear hg3)
                      go_roundg (i - (k + 1))
                      case measure => have := HKI.out; omega
                      case rel => exact ⟨k + 1, by go_num, by rw [HST.out]; rfl, ⟨by omega, rfl⟩, HG3⟩
                  · go_wp2_with (go_at_call 49; (with_reducible refine HWC.out.mono ?_); rintro e w3 ⟨rfl, hg3⟩; have y0 := hg3.cell q0 (by simp); have u0 := hg3.cell x0 (by simp); have HG3 := Aside0.mk (grown_trans HWI.out hg3); have hcg3 : cg < w3.heap.size := Nat.lt_of_lt_of_le hcgw hg3.size; have htg3 : tg < w3.heap.size := Nat.lt_of_lt_of_le htgw hg3.size; clear hg3)
                    go_roundg (i - (k + 1))
                    case measure => have := HKI.out; omega
                    case rel => exact ⟨k + 1, by go_num, by rw [HST.out]; rfl, ⟨by omega, rfl⟩, HG3⟩
                · go_wp2_with (go_at_call 49; (with_reducible refine HWC.out.mono ?_); rintro e w3 ⟨rfl, hg3⟩; have y0 := hg3.cell q0 (by simp); have u0 := hg3.cell x0 (by simp); have HG3 := Aside0.mk (grown_trans HWI.out hg3); have hcg3 : cg < w3.heap.size := Nat.lt_of_lt_of_le hcgw hg3.size; have htg3 : tg < w3.heap.size := Nat.lt_of_lt_of_le htgw hg3.size; clear hg3)
                  go_roundg (i - (k + 1))
                  case measure => have := HKI.out; omega
                  case rel => exact ⟨k + 1, by go_num, by rw [HST.out]; rfl, ⟨by omega, rfl⟩, HG3⟩
            · obtain rfl : k = i := by omega
              obtain ⟨wo, rfl⟩ : ∃ wo, wo = wr := ⟨_, rfl⟩
              have hfl := HFL.out
              rw [← seenTo_all, HGN.out, HSV.out] at hfl
              have HFL2 := Aside0.mk hfl
              have HOW := Aside0.mk (own_kept_no HACC.out HWI.out)
              have HBW := Aside0.mk (HBK.out.grown HWI.out hszk (fun k hk => by cases hk))
              have hszw : b2 ≤ wo.heap.size := Nat.le_trans hszk HWI.out.size
              clear hfl hkl q0 htgw
              cases sv
              · go_wp2_with fail
                go_roundg (n - (j + 1))
                case measure => have := HK.out; omega
                case rel =>
                  have h1 := HFL2.out
                  rw [if_neg Bool.false_ne_true] at h1
                  exact ⟨j + 1, acc, by go_num, ⟨by omega, rfl, by rw [HAL.out]; omega, h1⟩, ⟨by rw [HAL.out]; exact HOW.out⟩, HBW, hszw⟩
              · go_wp2_with (first | (at_builtin; refine print_append_cells (w0 := w2) (W := wo) b2 rfl (.tmp 98) (.tmp 100) 39 3 (.int .i64 0) 1 8 rfl Tryz.underlying39 info3 rfl (by decide) (by decide) (.slice A10 al c10) al (intCells acc) [.int .i64 j] (by rfl) (by simp [Act.eval]) rfl (by simp [Value.oneCell']) HOW.out HBW.out hszw (by omega) ?_; intro v5 w4 hv5 hb5 hg5 hat5; have HV5 := Aside0.mk hv5; have HB5 := Aside0.mk hb5; have hsz5 := hg5.size; clear hv5 hb5 hg5 hat5))
                go_roundg (n - (j + 1))
                case measure => have := HK.out; omega
                case rel =>
                  have h1 := HFL2.out
                  simp only [if_true] at h1
                  refine ⟨j + 1, acc ++ [(j : Int)], by go_num, ⟨by omega, rfl, by rw [List.length_append, List.length_singleton, HAL.out]; omega, ?_⟩, ⟨?_⟩, HB5, by omega⟩
                  · rw [← h1, List.append_assoc]; rfl
                  · have h2 := HV5.out
                    unfold intCells at h2 ⊢
                    rw [List.length_append, List.length_singleton, HAL.out, List.map_append]
                    exact h2
        · obtain rfl : j = n := by omega
          have hd0 : Lx.viewR ch gs (L.drop j) j = [] := by
            rw [List.drop_eq_nil_of_le (by have := HN.out; omega)]; rfl
          have hf0 := HK.out.2.2.2
          rw [hd0, List.append_nil] at hf0
          have HF0 := Aside0.mk hf0
          clear hd0 hf0
          go_wp2_with fail
          go_ret2
          refine ⟨_, rfl, ?_, HBW2.out.trans (HBK.out.mono hwb2)⟩
          rw [← HF0.out, HAL.out]
          exact own_lower HACC.out hwb2
end Go.Proofs.YtjnafjgonoficaaGreatDoor
namespace Go.Proofs.YtjnafjgonoficaaGreatDoor
open Go.RowKit Go.Proofs.YtjnafjgonoficaaGreatDoorW.PrintWords
set_option linter.unusedVariables false
set_option linter.unusedSimpArgs false
theorem no_ints (w : World) : Ints w (.slice none 0 0) [] := ⟨none, 0, rfl, Nat.le_refl _, Nat.zero_le _, .inl rfl⟩
theorem viewR_len (ch : List Int) (gs : List Lx.G) : ∀ (L : List Lx.Tok) (i : Nat), (Lx.viewR ch gs L i).length ≤ L.length
  | [], i => Nat.le_refl _
  | t :: r, i => by
    have ih := viewR_len ch gs r (i + 1)
    unfold Lx.viewR
    split
    · simp only [List.length_cons]; omega
    · simp only [List.length_cons]; omega
theorem zeros_ok (gs : List Lx.G) (h : ∀ g ∈ gs, 0 < g.br) (i : Nat) : ¬ badAt (List.replicate gs.length 0) gs i := by
  rintro ⟨x, g, h1, h2, h3⟩
  have hx : x = 0 := (List.mem_replicate.1 (List.mem_of_getElem? h1)).2
  have hg := h g (List.mem_of_getElem? h2)
  omega
theorem fits_of (ch : List Int) (gs : List Lx.G) (outs : List (List (Int × Int))) (hl : ch.length = gs.length) (hn : gs.length ≤ 1000000) (ho : ∀ o ∈ outs, Lx.OkOut gs.length gs.length o) (hok : ∀ i, ¬ badAt ch gs i) : Lx.Fits ch gs outs := by
  refine ⟨hl, fun i x g hx hg => ?_, fun o ho2 => ⟨Nat.le_trans (ho o ho2).1 hn, fun p hp => by rw [hl]; exact (ho o ho2).2 p hp⟩⟩
  have := hok i
  constructor
  · exact Int.not_lt.1 fun h => this ⟨x, g, hx, hg, .inl h⟩
  · exact Int.not_le.1 fun h => this ⟨x, g, hx, hg, .inr h⟩
/-- What both say of a choice. -/
def ViewC (f : Nat) (L : List Lx.Tok) (ch : List Int) (e0 : Int) (V : List Int) : Prop := ∀ (v cv : Value) (w : World), Tks w v L → Ints w cv ch → Laid w → Calls Tryz.prog f #[v, cv] w fun e w' => ∃ rv, e = .returned (.tuple #[rv, .int .i64 e0]) ∧ Ints w' rv V ∧ Below w.heap.size w w'
def FirstC (f : Nat) (L : List Lx.Tok) (e0 : Int) (V : List Int) : Prop := ∀ (v : Value) (w : World), Tks w v L → Laid w → Calls Tryz.prog f #[v] w fun e w' => ∃ rv, e = .returned (.tuple #[rv, .int .i64 e0]) ∧ Ints w' rv V ∧ Below w.heap.size w w'
theorem both_views (L : List Lx.Tok) (ch : List Int) (hlen : L.length ≤ 100000) (hcl : ch.length ≤ 1000000) (hs : ∀ t ∈ L, t.t.size ≤ 20000) : ∃ (e0 : Int) (V : List Int), V.length ≤ 1000000 ∧ ViewC 20 L ch e0 V ∧ ViewC 21 L ch e0 V := by
  obtain ⟨E, hE⟩ : ∃ E, (Lx.groups (L.map Lx.kindOf)).2.1 = E := ⟨_, rfl⟩
  have hSm := Lx.groups_small 0 (L.map Lx.kindOf) (by rw [List.length_map]; exact hlen)
  by_cases h0 : E = 0
  · rw [h0] at hE
    obtain ⟨outs, hP, hol, hok, hbr, hvw⟩ := Lx.view_law L hE
    by_cases hfit : ch.length = (Lx.groups (L.map Lx.kindOf)).1.length ∧ ∀ i, ¬ badAt ch (Lx.groups (L.map Lx.kindOf)).1 i
    · have hF := fits_of ch _ outs hfit.1 (by have := hSm.1; exact Nat.le_trans this (by decide)) hok hfit.2
      refine ⟨0, Lx.viewR ch (Lx.groups (L.map Lx.kindOf)).1 L 0, Nat.le_trans (viewR_len _ _ L 0) (by omega), ?_, ?_⟩
      · intro v cv w hT hI hW
        refine (view_calls v cv L ch w hT hI hlen hs hW.maxLen hW.blanks (by have := hW.size; omega) hE outs hP hSm hol hF).mono ?_
        rintro e w' ⟨rv, h1, h2, h3⟩
        rw [hvw] at h2
        exact ⟨rv, h1, own_ints h2, h3⟩
      · intro v cv w hT hI hW
        refine (refview_calls v cv L ch w hT hI hlen hcl hs hE hSm hfit.1 hfit.2).mono ?_
        rintro e w' ⟨rv, h1, h2, h3⟩
        exact ⟨rv, h1, own_ints h2, h3⟩
    · have hbad : ch.length ≠ (Lx.groups (L.map Lx.kindOf)).1.length ∨ ∃ i, badAt ch (Lx.groups (L.map Lx.kindOf)).1 i := by
        by_cases hl : ch.length = (Lx.groups (L.map Lx.kindOf)).1.length
        · right
          exact Classical.byContradiction fun hno => hfit ⟨hl, fun i hi => hno ⟨i, hi⟩⟩
        · exact .inl hl
      refine ⟨1, [], by simp, ?_, ?_⟩
      · intro v cv w hT hI hW
        refine (view_range v cv L ch w hT hI hlen hcl hs hW.maxLen hW.blanks (by have := hW.size; omega) hE outs hP hSm hbad).mono ?_
        rintro e w' ⟨h1, h2⟩
        exact ⟨_, h1, no_ints _, h2⟩
      · intro v cv w hT hI hW
        refine (refview_range v cv L ch w hT hI hlen hcl hs hE hSm hbad).mono ?_
        rintro e w' ⟨h1, h2⟩
        exact ⟨_, h1, no_ints _, h2⟩
  · have hne : (E != 0) = true := bne_iff_ne.2 h0
    refine ⟨E, [], by simp, ?_, ?_⟩
    · intro v cv w hT hI hW
      obtain ⟨CA, CC, rfl, -⟩ := hI
      refine (view_err v CA ch.length CC L w hT hlen hs hW.maxLen hW.blanks (by have := hW.size; omega) E hE hne).mono ?_
      rintro e w' ⟨h1, h2⟩
      exact ⟨_, h1, no_ints _, h2⟩
    · intro v cv w hT hI hW
      obtain ⟨CA, CC, rfl, -⟩ := hI
      refine (refview_err v CA ch.length CC L w hT hlen hs E hE hne).mono ?_
      rintro e w' ⟨h1, h2⟩
      exact ⟨_, h1, no_ints _, h2⟩
set_option maxRecDepth 100000 in
theorem reffirst_calls (v : Value) (L : List Lx.Tok) (w : World) (hT : Tks w v L) (hlen : L.length ≤ 100000) (hs : ∀ t ∈ L, t.t.size ≤ 20000) (hE : (Lx.groups (L.map Lx.kindOf)).2.1 = 0) (hSm : Lx.Small (Lx.groups (L.map Lx.kindOf)).1)
    (hbr : ∀ g ∈ (Lx.groups (L.map Lx.kindOf)).1, 0 < g.br) :
    Calls Tryz.prog 23 #[v] w fun e w' => ∃ rv, e = .returned (.tuple #[rv, .int .i64 0]) ∧ Ints w' rv (Lx.viewR (List.replicate (Lx.groups (L.map Lx.kindOf)).1.length 0) (Lx.groups (L.map Lx.kindOf)).1 L 0) ∧ Below w.heap.size w w' := by
  have HG := Aside0.mk (refGroups_calls v L w hT hlen hs)
  have hgl := hSm.1
  have HV := Aside0.mk (fun (cv : Value) (W : World) (hT : Tks W v L) (hI : Ints W cv (List.replicate (Lx.groups (L.map Lx.kindOf)).1.length 0)) => refview_calls v cv L (List.replicate (Lx.groups (L.map Lx.kindOf)).1.length 0) W hT hI hlen (by rw [List.length_replicate]; omega) hs hE hSm (by rw [List.length_replicate]) (zeros_ok _ hbr))
  rw [hE] at HG
  obtain ⟨gs, hgs⟩ : ∃ gs, (Lx.groups (L.map Lx.kindOf)).1 = gs := ⟨_, rfl⟩
  obtain ⟨PZ, hPZ⟩ : ∃ PZ, (Lx.groups (L.map Lx.kindOf)).2.2 = PZ := ⟨_, rfl⟩
  rw [hgs] at HV hgl
  rw [hgs, hPZ] at HG
  rw [hgs]
  obtain ⟨gn, hgn⟩ : ∃ gn, gs.length = gn := ⟨_, rfl⟩
  rw [hgn] at hgl HV ⊢
  have HTT := Aside0.mk hT
  have HGN := Aside0.mk hgn
  have hmk := print_make_of (P := Tryz.prog) 39 3 (.int .i64 0) 8 Tryz.underlying39 (by kernel_rfl) rfl (by decide) gn (by omega)
  clear hT hE hs hSm hgn hgs hPZ hbr
  go_enter Tryz.func23, Tryz.ntmps23
  go_wp2_with (first | (go_at_call 17; (refine HG.out.mono ?_); rintro e w1 ⟨gv, rfl, hgrp, hb⟩; have HB := Aside0.mk hb; have hgv : ∃ A c, gv = .slice A gn c := (by obtain ⟨ls, e1, e2, e3⟩ := hgrp; rw [HGN.out] at e2; exact own_slice e2); obtain ⟨GA, GC, rfl⟩ := hgv; clear hgrp hb) | (go_at_call 21; (refine (HV.out _ _ ?_ (made_zeros w1 gn (by omega))).mono ?_); exact HTT.out.below (HB.out.alloc HB.out.size _); rintro e w3 ⟨rv, rfl, hrv, hb⟩; have HRV := Aside0.mk (own_ints hrv); have HB2 := Aside0.mk hb; clear hrv hb))
  go_ret2
  have h1 := HB.out.size
  exact ⟨_, rfl, HRV.out, (HB.out.alloc HB.out.size _).trans (HB2.out.mono (by simp; omega))⟩
theorem both_firsts (L : List Lx.Tok) (hlen : L.length ≤ 100000) (hs : ∀ t ∈ L, t.t.size ≤ 20000) : ∃ (e0 : Int) (V : List Int), V.length ≤ 1000000 ∧ FirstC 22 L e0 V ∧ FirstC 23 L e0 V := by
  obtain ⟨E, hE⟩ : ∃ E, (Lx.groups (L.map Lx.kindOf)).2.1 = E := ⟨_, rfl⟩
  have hSm := Lx.groups_small 0 (L.map Lx.kindOf) (by rw [List.length_map]; exact hlen)
  by_cases h0 : E = 0
  · rw [h0] at hE
    obtain ⟨outs, hP, hol, hok, hbr, hvw⟩ := Lx.view_law L hE
    have hF := fits_of (List.replicate (Lx.groups (L.map Lx.kindOf)).1.length 0) _ outs (by rw [List.length_replicate]) (by have := hSm.1; exact Nat.le_trans this (by decide)) hok (zeros_ok _ hbr)
    refine ⟨0, Lx.viewR (List.replicate (Lx.groups (L.map Lx.kindOf)).1.length 0) (Lx.groups (L.map Lx.kindOf)).1 L 0, Nat.le_trans (viewR_len _ _ L 0) (by omega), ?_, ?_⟩
    · intro v w hT hW
      refine (first_calls v L w hT hlen hs hW.maxLen hW.blanks (by have := hW.size; omega) hE outs hP hSm hol hF).mono ?_
      rintro e w' ⟨rv, h1, h2, h3⟩
      rw [hvw] at h2
      exact ⟨rv, h1, own_ints h2, h3⟩
    · intro v w hT hW
      exact reffirst_calls v L w hT hlen hs hE hSm hbr
  · have hne : (E != 0) = true := bne_iff_ne.2 h0
    refine ⟨E, [], by simp, ?_, ?_⟩
    · intro v w hT hW
      refine (first_err v L w hT hlen hs hW.maxLen hW.blanks (by have := hW.size; omega) E hE hne).mono ?_
      rintro e w' ⟨h1, h2⟩
      exact ⟨_, h1, no_ints _, h2⟩
    · intro v w hT hW
      refine (reffirst_err v L w hT hlen hs E hE hne).mono ?_
      rintro e w' ⟨h1, h2⟩
      exact ⟨_, h1, no_ints _, h2⟩
end Go.Proofs.YtjnafjgonoficaaGreatDoor
