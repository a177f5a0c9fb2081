/-
  The choice that definitions make, plainly: by the conditions in order, and from the last line backwards; both are the same. No program in sight. Conditions: none.
  What cond.Choose comes to. Conditions: the tokens and the definitions lie in memory; the tokens are short; the library's variables are as their text lays them.
  What the reference's holds comes to. Conditions: the definitions lie in memory; the token is short, its kind one with a condition.
  The reference's state on its way to the groups, in memory, and how it is kept. Conditions: none.
-/
import Derived.WalkSmall
import Derived.Test.YtjnafjgonoficaaGreatDoorE11
import Derived.Test.YtjnafjgonoficaaGreatDoorE18
import Derived.Test.YtjnafjgonoficaaGreatDoorE08
namespace Go.Proofs.YtjnafjgonoficaaGreatDoor
open Go.RowKit Go.Proofs.YtjnafjgonoficaaGreatDoorW.PrintWords
set_option linter.unusedVariables false
set_option linter.unusedSimpArgs false
namespace Lx
theorem isExpr_of {K : ByteArray} (h : isExpr K = true) : K.data.toList = [105, 102] ∨ K.data.toList = [101, 108, 105, 102] := by
  unfold isExpr at h
  rw [ByteArray.toList_eq, Bool.or_eq_true, beq_iff_eq, beq_iff_eq] at h
  exact h
theorem wdOf_ok (t : Tok) : ∀ x ∈ wdOf t, OkKT (t.t.size + 1) x.k x.t := by
  unfold wdOf
  split
  · intro x hx
    exact (wd_ok _ 0 x hx).mono (by rw [ByteArray.size_extract]; omega)
  · intro x hx; cases hx
theorem kind_first (t : Tok) (h : isExpr (kindOf t) = true ∨ isDfn (kindOf t) = true) : isDir t = true ∧ ∃ (w0 : Tok) (r : List Tok), wdOf t = w0 :: r ∧ w0.t = kindOf t := by
  have hoth : ¬ (isExpr ⟨#[111, 116, 104, 101, 114]⟩ = true ∨ isDfn ⟨#[111, 116, 104, 101, 114]⟩ = true) := by
    unfold isExpr isDfn
    rw [ByteArray.toList_eq]
    decide
  have hnil : ¬ (isExpr ⟨#[]⟩ = true ∨ isDfn ⟨#[]⟩ = true) := by
    unfold isExpr isDfn
    rw [ByteArray.toList_eq]
    decide
  unfold kindOf at h ⊢
  split at h
  · rename_i h7
    rw [if_pos h7]
    cases hw : wdOf t with
    | nil => rw [hw] at h; exact absurd h hoth
    | cons w0 r =>
      rw [hw] at h
      change (isExpr (if Lib.containsS kinds w0.t = true then w0.t else ⟨#[111, 116, 104, 101, 114]⟩) = true ∨ isDfn (if Lib.containsS kinds w0.t = true then w0.t else ⟨#[111, 116, 104, 101, 114]⟩) = true) at h
      by_cases hc : Lib.containsS kinds w0.t = true
      · refine ⟨?_, w0, r, rfl, show w0.t = (if Lib.containsS kinds w0.t = true then w0.t else ⟨#[111, 116, 104, 101, 114]⟩) by rw [if_pos hc]⟩
        cases hd : isDir t
        · unfold wdOf at hw
          rw [hd, if_neg Bool.false_ne_true] at hw
          cases hw
        · rfl
      · rw [if_neg hc] at h
        exact absurd h hoth
  · exact absurd h hnil
theorem expr_words (t : Tok) (h : isExpr (kindOf t) = true) : ∃ (w0 : Tok) (r : List Tok) (p : Nat), wdOf t = w0 :: r ∧ w0.a = (p : Int) ∧ 1 + p + (kindOf t).size ≤ t.t.size ∧ r = (wd (t.t.extract (1 + p + (kindOf t).size) t.t.size) 0).map (shT (p + (kindOf t).size : Nat)) := by
  obtain ⟨hd, w0, r, hw, hk⟩ := kind_first t (.inl h)
  have h1 : 1 ≤ t.t.size := by
    unfold isDir at hd
    rw [Bool.and_eq_true] at hd
    have h35 := of_decide_eq_true hd.2
    have := B_lt_of_ne (s := t.t) (i := 0) (by rw [h35]; decide)
    omega
  have hok := wdOf_ok t w0 (by rw [hw]; exact List.mem_cons_self)
  have hk12 : w0.k = 1 ∨ w0.k = 2 := by
    rcases isExpr_of h with e | e <;> rw [← hk] at e
    · exact hok.letter _ _ e (by decide)
    · exact hok.letter _ _ e (by decide)
  have hw2 := hw
  unfold wdOf at hw2
  rw [hd, if_pos rfl] at hw2
  obtain ⟨p, e1, e2, -, e4, -⟩ := wd_tail _ w0 r hw2 hk12
  rw [hk] at e2 e4
  have hsz : (t.t.extract 1 t.t.size).size = t.t.size - 1 := by rw [ByteArray.size_extract]; omega
  refine ⟨w0, r, p, hw, e1, by omega, ?_⟩
  rw [e4, wd_add, ext_ext t.t 1 _ h1, show p + (kindOf t).size + 1 = 1 + p + (kindOf t).size by omega]
noncomputable def holdsT (defs : List (ByteArray × ByteArray)) (t : Tok) : Bool :=
  if isExpr (kindOf t) = true then (evR numB (valOf defs) (wdOf t).tail).1 != 0
  else ((match wdOf t with | _ :: u :: _ => if u.k = 1 then (valOf defs u.t).2 else false | _ => false) == ((kindOf t).toList == [105, 102, 100, 101, 102]))
theorem holds_same (defs : List (ByteArray × ByteArray)) (t : Tok) (h : isExpr (kindOf t) = true ∨ isDfn (kindOf t) = true) : ∃ c, condOf t = some c ∧ c.val defs = holdsT defs t := by
  unfold condOf holdsT
  cases hE : isExpr (kindOf t)
  · have hD : isDfn (kindOf t) = true := h.resolve_left (by rw [hE]; exact Bool.false_ne_true)
    rw [if_neg Bool.false_ne_true, if_neg Bool.false_ne_true, if_pos hD]
    refine ⟨_, rfl, ?_⟩
    unfold Cn.val
    congr 1
    have hok := wdOf_ok t
    match hw : wdOf t with
    | [] => simp [nameD, ByteArray.toList_eq]
    | [a] => simp [nameD, ByteArray.toList_eq]
    | a :: u :: r =>
      dsimp only [nameD]
      by_cases hu : u.k = 1
      · rw [if_pos hu, if_pos hu]
        have hne := (hok u (by rw [hw]; simp)).name hu
        have : u.t.toList.isEmpty = false := by rw [ByteArray.toList_eq]; simpa using hne
        rw [this, Bool.not_false, Bool.and_true]
      · rw [if_neg hu, if_neg hu]
        simp [ByteArray.toList_eq]
  · rw [if_pos rfl, if_pos rfl]
    obtain ⟨w0, r, p, hw, ha, -, hr⟩ := expr_words t hE
    refine ⟨_, rfl, ?_⟩
    unfold Cn.val exprV
    rw [hw]
    dsimp only [headA, List.tail_cons]
    rw [ha, Int.toNat_natCast, hr, evR_map (shT_kt _)]
noncomputable def pickG (defs : List (ByteArray × ByteArray)) (L : List Tok) (g : G) : Int := match firstT defs (condsL L (g.lines.take (g.lines.length - 1))) 0 with
  | some j => (j : Int)
  | none => ((condsL L (g.lines.take (g.lines.length - 1))).length : Int)
noncomputable def okT (defs : List (ByteArray × ByteArray)) (t : Tok) : Bool := !((kindOf t).toList == [101, 108, 115, 101]) && holdsT defs t
noncomputable def pickF (defs : List (ByteArray × ByteArray)) (d : Int) : List Tok → Nat → Int
  | [], _ => d
  | t :: r, i => if okT defs t = true then (i : Int) else pickF defs d r (i + 1)
theorem pickF_at (defs : List (ByteArray × ByteArray)) (d : Int) (l : List Tok) (i j : Nat) (t : Tok) (h : l[i]? = some t) : pickF defs d (l.drop i) j = if okT defs t = true then (j : Int) else pickF defs d (l.drop (i + 1)) (j + 1) := by
  obtain ⟨hi, rfl⟩ := List.getElem?_eq_some_iff.1 h
  rw [List.drop_eq_getElem_cons hi]
  rfl
def toksOf (L : List Tok) (xs : List Int) : List Tok := xs.filterMap fun x => L[x.toNat]?
noncomputable def pickR (defs : List (ByteArray × ByteArray)) (L : List Tok) (g : G) : Int := pickF defs (g.br - 1) (toksOf L (g.lines.take (g.lines.length - 1))) 0
theorem pick_conds (defs : List (ByteArray × ByteArray)) (d : Int) : ∀ (ts : List Tok) (i : Nat), (∀ t ∈ ts, isExpr (kindOf t) = true ∨ isDfn (kindOf t) = true) → pickF defs d ts i = (match firstT defs (ts.filterMap condOf) i with | some j => (j : Int) | none => d) ∧ (ts.filterMap condOf).length = ts.length
  | [], i, _ => ⟨rfl, rfl⟩
  | t :: r, i, h => by
    have ht := h t List.mem_cons_self
    obtain ⟨c, hc, hv⟩ := holds_same defs t ht
    obtain ⟨ih1, ih2⟩ := pick_conds defs d r (i + 1) (fun x hx => h x (List.mem_cons_of_mem _ hx))
    have hne : ((kindOf t).toList == [101, 108, 115, 101]) = false := by
      rcases ht with ht | ht
      · unfold isExpr at ht
        rw [Bool.or_eq_true, beq_iff_eq, beq_iff_eq] at ht
        rcases ht with e | e <;> rw [e] <;> rfl
      · unfold isDfn at ht
        rw [Bool.or_eq_true, beq_iff_eq, beq_iff_eq] at ht
        rcases ht with e | e <;> rw [e] <;> rfl
    have hok : okT defs t = c.val defs := by unfold okT; rw [hne, hv]; rfl
    rw [List.filterMap_cons, hc]
    refine ⟨?_, by simp [ih2]⟩
    unfold pickF firstT
    rw [hok]
    split
    · rfl
    · exact ih1
theorem pickF_app (defs : List (ByteArray × ByteArray)) (d : Int) (y : Tok) (hy : okT defs y = false) : ∀ (ts : List Tok) (i : Nat), pickF defs d (ts ++ [y]) i = pickF defs d ts i
  | [], i => by show (if okT defs y = true then _ else _) = _; rw [hy, if_neg Bool.false_ne_true]; rfl
  | t :: r, i => by
    rw [List.cons_append]
    unfold pickF
    rw [pickF_app defs d y hy r (i + 1)]
theorem kAt_map (L : List Tok) (x : Int) (t : Tok) (h : L[x.toNat]? = some t) : kAt (L.map kindOf) x = kindOf t := by
  unfold kAt
  rw [List.getD_eq_getElem?_getD, List.getElem?_map, h]
  rfl
theorem condsL_toks (L : List Tok) (xs : List Int) : condsL L xs = (toksOf L xs).filterMap condOf := by
  unfold condsL toksOf
  rw [List.filterMap_filterMap]
theorem toksOf_len (L : List Tok) : ∀ xs : List Int, (∀ x ∈ xs, 0 ≤ x ∧ x < (L.length : Int)) → (toksOf L xs).length = xs.length
  | [], _ => rfl
  | x :: r, h => by
    have hx := h x List.mem_cons_self
    obtain ⟨t, ht⟩ : ∃ t, L[x.toNat]? = some t := ⟨_, List.getElem?_eq_getElem (by omega)⟩
    unfold toksOf
    rw [List.filterMap_cons, ht]
    have := toksOf_len L r (fun y hy => h y (List.mem_cons_of_mem _ hy))
    unfold toksOf at this
    simp [this]
theorem toksOf_mem (L : List Tok) (xs : List Int) (t : Tok) (h : t ∈ toksOf L xs) : ∃ x ∈ xs, L[x.toNat]? = some t := by
  unfold toksOf at h
  obtain ⟨x, h1, h2⟩ := List.mem_filterMap.1 h
  exact ⟨x, h1, h2⟩
theorem opens_kind {K : ByteArray} (h : opens K = true) : isExpr K = true ∨ isDfn K = true := by
  unfold opens sIf sIfdef sIfndef at h
  unfold isExpr isDfn
  rw [Bool.or_eq_true, Bool.or_eq_true] at h
  rw [Bool.or_eq_true, Bool.or_eq_true]
  rcases h with (h | h) | h
  · exact .inl (.inl h)
  · exact .inr (.inl h)
  · exact .inr (.inr h)
theorem pick_same (defs : List (ByteArray × ByteArray)) (L : List Tok) (g : G) (hS : Shut (L.map kindOf) g) (hin : ∀ x ∈ g.lines, 0 ≤ x ∧ x < (L.length : Int)) : pickG defs L g = pickR defs L g := by
  obtain ⟨x, c, z, h1, h2, h3, hbr, hl⟩ := hS
  have key : ∀ body : List Int, (∀ y ∈ body, y ∈ g.lines) → g.lines.take (g.lines.length - 1) = body → (body = x :: c ∨ ∃ y, ((kAt (L.map kindOf) y).toList == sElse) = true ∧ body = x :: c ++ [y]) → pickG defs L g = pickR defs L g := by
    intro body hbi hb hform
    unfold pickG pickR
    rw [hb, condsL_toks]
    have hgood : ∀ t ∈ toksOf L (x :: c), isExpr (kindOf t) = true ∨ isDfn (kindOf t) = true := by
      intro t ht
      obtain ⟨y, hy, hyt⟩ := toksOf_mem L _ t ht
      have hk := kAt_map L y t hyt
      rcases List.mem_cons.1 hy with rfl | hy
      · rw [hk] at h1; exact opens_kind h1
      · have := h2 y hy
        rw [hk] at this
        left
        unfold isExpr
        unfold sElif at this
        rw [this, Bool.or_true]
    obtain ⟨p1, p2⟩ := pick_conds defs (g.br - 1) (toksOf L (x :: c)) 0 hgood
    rcases hform with rfl | ⟨y, hy, rfl⟩
    · rw [p1, p2, toksOf_len L (x :: c) (fun y hy => hin y (hbi y hy))]
      cases firstT defs ((toksOf L (x :: c)).filterMap condOf) 0 with
      | some j => rfl
      | none => simp; omega
    · have hyin := hin y (hbi y (by simp))
      obtain ⟨ty, hty⟩ : ∃ t, L[y.toNat]? = some t := ⟨_, List.getElem?_eq_getElem (by omega)⟩
      have happ : toksOf L (x :: c ++ [y]) = toksOf L (x :: c) ++ [ty] := by
        unfold toksOf
        rw [List.filterMap_append]
        congr 1
        simp [hty]
      have hk := kAt_map L y ty hty
      rw [hk] at hy
      unfold sElse at hy
      have hno : okT defs ty = false := by unfold okT; rw [hy]; rfl
      have hcn : condOf ty = none := by
        unfold condOf isExpr isDfn
        rw [beq_iff_eq.mp hy]
        rfl
      rw [happ, List.filterMap_append, pickF_app defs _ ty hno, p1]
      have e0 : [ty].filterMap condOf = [] := by simp [hcn]
      rw [e0, List.append_nil, p2, toksOf_len L (x :: c) (fun y hy => hin y (hbi y (List.mem_append_left _ hy)))]
      cases firstT defs ((toksOf L (x :: c)).filterMap condOf) 0 with
      | some j => rfl
      | none => simp; omega
  rcases hl with hl | ⟨y, hy, hl⟩
  · exact key (x :: c) (fun y hy => by rw [hl]; exact List.mem_append_left _ hy) (by rw [hl]; simp) (.inl rfl)
  · refine key (x :: c ++ [y]) (fun u hu => ?_) ?_ (.inr ⟨y, hy, rfl⟩)
    · rw [hl]
      rcases List.mem_append.1 hu with hu | hu
      · exact List.mem_append_left _ hu
      · exact List.mem_append_right _ (by rw [List.mem_singleton.1 hu]; simp)
    · rw [hl, show x :: c ++ [y, z] = (x :: c ++ [y]) ++ [z] by simp, show ((x :: c ++ [y]) ++ [z]).length - 1 = (x :: c ++ [y]).length by simp, List.take_left]
theorem groups_in (L : List Tok) : ∀ g ∈ (groups (L.map kindOf)).1, ∀ x ∈ g.lines, 0 ≤ x ∧ x < (L.length : Int) := by
  unfold groups groupsC
  split
  · intro g hg; cases hg
  · cases hr : grun 0 gs0 (L.map kindOf) 0 with
    | inr n => intro g hg; cases hg
    | inl S =>
      have h := sm_run 0 _ gs0 S 0 hr sm0
      dsimp only
      split
      · intro g hg x hx
        have := (h.2 g hg).2 x hx
        rw [List.length_map] at this
        omega
      · intro g hg; cases hg
noncomputable def chooseL (defs : List (ByteArray × ByteArray)) (L : List Tok) : List Int := (groups (L.map kindOf)).1.map (pickG defs L)
end Lx
end Go.Proofs.YtjnafjgonoficaaGreatDoor
namespace Go.Proofs.YtjnafjgonoficaaGreatDoor
open Go.RowKit Go.Proofs.YtjnafjgonoficaaGreatDoorW.PrintWords
set_option linter.unusedVariables false
set_option linter.unusedSimpArgs false
def pickO (R : Option Nat) (n : Nat) : Int := match R with
  | some j => (j : Int)
  | none => (n : Int)
theorem pickG_eq (defs : List (ByteArray × ByteArray)) (L : List Lx.Tok) (g : Lx.G) : Lx.pickG defs L g = pickO (Lx.firstT defs (Lx.condsL L (g.lines.take (g.lines.length - 1))) 0) (Lx.condsL L (g.lines.take (g.lines.length - 1))).length := rfl
set_option maxRecDepth 100000 in
set_option maxHeartbeats 8000000 in
theorem choose_err (v dv : Value) (L : List Lx.Tok) (w : World) (hT : Tks w v L) (hlen : L.length ≤ 30000) (hs : ∀ t ∈ L, t.t.size ≤ 20000) (hL : Laid w) (DA : Option Addr) (DN DC : Nat) (hdv : dv = .slice DA DN DC) (E : Int) (hE : (Lx.groups (L.map Lx.kindOf)).2.1 = E) (hE0 : E ≠ 0) :
    Calls Tryz.prog 29 #[v, dv] w fun e w' => e = .returned (.tuple #[.slice none 0 0, .int .i64 E]) ∧ Below w.heap.size w w' := by
  subst hdv
  have hB1 : Below w.heap.size w (w.alloc (.cells #[.slice DA DN DC] 49)) := (Below.refl _ _).alloc (Nat.le_refl _) _
  have hL1 := hL.below hB1
  have hgr := condGroups_calls v L (w.alloc (.cells #[.slice DA DN DC] 49)) (hT.below hB1) (by omega) hs hL1.maxLen hL1.blanks (by have := hL1.size; omega)
  rw [hE] at hgr
  obtain ⟨gs, hgs⟩ : ∃ gs, (Lx.groups (L.map Lx.kindOf)).1 = gs := ⟨_, rfl⟩
  rw [hgs] at hgr
  obtain ⟨gn, hgn⟩ : ∃ gn, gs.length = gn := ⟨_, rfl⟩
  have HGN := Aside0.mk hgn
  have HGR := Aside0.mk hgr
  have HB1 := Aside0.mk hB1
  have hne : (E != 0) = true := bne_iff_ne.mpr hE0
  obtain ⟨A, c, rfl, -⟩ := hT
  obtain ⟨n, hn⟩ : ∃ n, L.length = n := ⟨_, rfl⟩
  rw [hn] at HGR ⊢
  clear hs hL hE hE0 hB1 hL1 hgr hgs hgn hn hlen
  go_enter Tryz.func29, Tryz.ntmps29
  go_wp2_with (go_at_call 16; (refine HGR.out.mono ?_); rintro e w2 ⟨gv, rfl, hgrp, hb⟩; have HGRP := Aside0.mk hgrp; have HB := Aside0.mk hb; have hgv : ∃ A c, gv = .slice A gn c := (by obtain ⟨ls, e1, e2, e3⟩ := hgrp; exact own_slice (own_cast e2 HGN.out)); obtain ⟨GA, GC, rfl⟩ := hgv; have hszz := hb.size; have hwb : w.heap.size < w2.heap.size := (by simp at hszz; omega); clear hgrp hb hszz)
  go_ret2
  exact ⟨rfl, HB1.out.trans (HB.out.mono HB1.out.size)⟩
set_option maxRecDepth 100000 in
set_option maxHeartbeats 8000000 in
theorem choose_ok (v dv : Value) (L : List Lx.Tok) (defs : List (ByteArray × ByteArray)) (w : World) (hT : Tks w v L) (hlen : L.length ≤ 30000) (hs : ∀ t ∈ L, t.t.size ≤ 20000) (hL : Laid w) (hD : Dfs w dv defs) (hE : (Lx.groups (L.map Lx.kindOf)).2.1 = 0) :
    Calls Tryz.prog 29 #[v, dv] w fun e w' => ∃ rv, e = .returned (.tuple #[rv, .int .i64 0]) ∧ Ints w' rv (Lx.chooseL defs L) ∧ Below w.heap.size w w' := by
  have hB1 : Below w.heap.size w (w.alloc (.cells #[dv] 49)) := (Below.refl _ _).alloc (Nat.le_refl _) _
  have hL1 := hL.below hB1
  have hgr := condGroups_calls v L (w.alloc (.cells #[dv] 49)) (hT.below hB1) (by omega) hs hL1.maxLen hL1.blanks (by have := hL1.size; omega)
  have hsm : Lx.Small (Lx.groups (L.map Lx.kindOf)).1 := Lx.groups_small 0 (L.map Lx.kindOf) (by rw [List.length_map]; omega)
  have hin := Lx.groups_in L
  rw [hE] at hgr
  unfold Lx.chooseL
  obtain ⟨gs, hgs⟩ : ∃ gs, (Lx.groups (L.map Lx.kindOf)).1 = gs := ⟨_, rfl⟩
  rw [hgs] at hgr hin hsm ⊢
  obtain ⟨gn, hgn⟩ : ∃ gn, gs.length = gn := ⟨_, rfl⟩
  have hgl := hsm.1
  rw [hgn] at hgl
  have hD1 := hD
  obtain ⟨DA, DC, rfl, -⟩ := hD1
  obtain ⟨dn, hdn⟩ : ∃ dn, defs.length = dn := ⟨_, rfl⟩
  have HGN := Aside0.mk hgn
  have HGR := Aside0.mk hgr
  have HB1 := Aside0.mk hB1
  have HT := Aside0.mk hT
  have HL := Aside0.mk hL
  have HD := Aside0.mk hD
  have HS := Aside0.mk hs
  have HIN := Aside0.mk hin
  have HSM := Aside0.mk hsm
  obtain ⟨A, c, rfl, -⟩ := hT
  obtain ⟨n, hn⟩ : ∃ n, L.length = n := ⟨_, rfl⟩
  have HN := Aside0.mk hn
  rw [hn] at HGR HT hlen ⊢
  rw [hdn] at HGR HB1 HD ⊢
  clear hs hL hD hE hB1 hL1 hgr hgs hgn hn hin hsm hdn
  go_enter Tryz.func29, Tryz.ntmps29
  go_wp2_with (go_at_call 16; (refine HGR.out.mono ?_); rintro e w2 ⟨gv, rfl, hgrp, hb⟩; have HGRP := Aside0.mk hgrp; have HB := Aside0.mk hb; have hgv : ∃ A c, gv = .slice A gn c := (by obtain ⟨ls, e1, e2, e3⟩ := hgrp; exact own_slice (own_cast e2 HGN.out)); obtain ⟨GA, GC, rfl⟩ := hgv; have hszz := hb.size; have hwb : w.heap.size < w2.heap.size := (by simp at hszz; omega); clear hgrp hb hszz)
  have hga : (w.alloc (.cells #[.slice DA dn DC] 49)).grownBy w2 none := grown_below (World.grownBy.refl _ none) HB.out
  have hbox := (hga.block w.heap.size (by simp) (by simp)).trans (blk_new w (.cells #[.slice DA dn DC] 49))
  have HBOX := Aside0.mk hbox
  have HBW2 := Aside0.mk (HB1.out.trans (HB.out.mono HB1.out.size))
  obtain ⟨b2, hb2⟩ : ∃ b2, w2.heap.size = b2 := ⟨_, rfl⟩
  have HB2 := Aside0.mk hb2
  have hsb : b2 ≤ w2.heap.size := by omega
  have hwb2 : w.heap.size < b2 := by omega
  clear hga hbox hb2
  go_loopg [9, 25] gn (fun kq v9 v25 W => ∃ (i : Nat) (acc : List Int), v25 = .int .i64 i ∧ Aside0 (i ≤ gn ∧ kq = gn - i ∧ acc = (gs.take i).map (Lx.pickG defs L) ∧ acc.length = i) ∧ Aside0 (W.ownsRow b2 3 1 v9 acc.length (intCells acc)) ∧ Aside0 (Below b2 w2 W) ∧ b2 ≤ W.heap.size)
  case atStart => exact ⟨0, [], rfl, ⟨by omega, rfl, rfl, rfl⟩, ⟨own_nil _ _ _ _⟩, ⟨Below.refl _ _⟩, hsb⟩
  case round =>
    obtain ⟨i, acc, rfl, HJ, HACC0, HBK, hszk⟩ := hrel
    have hi := HJ.out.1
    have hi0 : (0 : Int) ≤ (i : Int) := Int.natCast_nonneg _
    obtain ⟨al, hal⟩ : ∃ al, acc.length = al := ⟨_, rfl⟩
    have HAL := Aside0.mk hal
    have HACC := Aside0.mk (own_cast HACC0.out hal)
    have hali : al = i := by rw [← hal]; exact HJ.out.2.2.2
    have HALI := Aside0.mk hali
    have hall : al ≤ 100000 := by omega
    clear hal hali
    by_cases hlt : i < gn
    · obtain ⟨g, hg⟩ : ∃ g, gs[i]? = some g := ⟨_, List.getElem?_eq_getElem (by have := HGN.out; omega)⟩
      obtain ⟨gb, c', gl, cl, hgv, a0, a1, a2, a3, hl0, hlc, hcm, hglb, hgbb, hat⟩ := HGRP.out.at i g hg
      simp only [Value.slice.injEq] at hgv
      obtain ⟨rfl, -, rfl⟩ := hgv
      have hgb2 : gb < b2 := by have := HB2.out; omega
      have hgl2 : gl < b2 := by have := HB2.out; omega
      have a0 := (HBK.out.cell (p := ⟨gb, _, none⟩) hgb2).trans a0
      have a1 := (HBK.out.cell (p := ⟨gb, _, none⟩) hgb2).trans a1
      have a2 := (HBK.out.cell (p := ⟨gb, _, none⟩) hgb2).trans a2
      have a3 := (HBK.out.cell (p := ⟨gb, _, none⟩) hgb2).trans a3
      have hgbw : gb < wr.heap.size := by omega
      obtain ⟨m, hm⟩ : ∃ m, g.lines.length = m + 1 := ⟨g.lines.length - 1, by omega⟩
      have hm5 : m ≤ 100000 := by have := HSM.out.2 g (List.mem_of_getElem? hg); have := hm; omega
      have hacx : (gs.take (i + 1)).map (Lx.pickG defs L) = acc ++ [Lx.pickG defs L g] := by
        rw [take_snoc gs i g hg, List.map_append, ← HJ.out.2.2.1]; rfl
      have HACX := Aside0.mk hacx.symm
      have hB12 : Below w.heap.size w wr := HBW2.out.trans (HBK.out.mono (by omega))
      have HBWR := Aside0.mk hB12
      have hba : Below wr.heap.size wr (wr.alloc (.cells #[.slice (some ⟨gl, 0, none⟩) (m + 1) cl, .int .i64 g.br, .int .i64 g.par, .int .i64 g.bch] 41)) := (Below.refl _ _).alloc (Nat.le_refl _) _
      have hbwa := hB12.trans (hba.mono hB12.size)
      have hIa : Ints (wr.alloc (.cells #[.slice (some ⟨gl, 0, none⟩) (m + 1) cl, .int .i64 g.br, .int .i64 g.par, .int .i64 g.bch] 41)) (.slice (some ⟨gl, 0, none⟩) (m + 1) cl) g.lines := by
        refine ⟨some ⟨gl, 0, none⟩, cl, by rw [hm], by omega, hcm, .inr ⟨gl, 0, rfl, fun k t ht => ?_, by simp; omega⟩⟩
        exact (hba.cell (p := ⟨gl, _, none⟩) (by show gl < _; omega)).trans ((HBK.out.cell (p := ⟨gl, _, none⟩) hgl2).trans (hat k t ht))
      have hLa := HL.out.below hbwa
      have hcd := conds_calls _ _ _ L g.lines g.br g.par g.bch m (HT.out.below hbwa) hIa hm hm5 (fun x hx => by have := HIN.out g (List.mem_of_getElem? hg) x hx; rw [HN.out] at this ⊢; exact this) (by rw [HN.out]; omega) HS.out hLa.maxLen hLa.blanks (by have := hLa.size; omega)
        (fun x hx t ht he => by obtain ⟨w0, r, p, e1, e2, e3, -⟩ := Lx.expr_words t he; exact ⟨w0, r, p, e1, e2, e3⟩)
      obtain ⟨CL, hCL⟩ : ∃ CL, Lx.condsL L (g.lines.take m) = CL := ⟨_, rfl⟩
      rw [hCL] at hcd
      obtain ⟨nc, hnc⟩ : ∃ nc, CL.length = nc := ⟨_, rfl⟩
      have hnc5 : nc ≤ 100000 := by rw [← hnc, ← hCL]; have := Lx.condsL_len L (g.lines.take m); rw [List.length_take] at this; omega
      have HNC := Aside0.mk hnc
      have HCD := Aside0.mk hcd
      have HBA := Aside0.mk hba
      have HSA : Aside0 (wr.heap.size < (wr.alloc (.cells #[.slice (some ⟨gl, 0, none⟩) (m + 1) cl, .int .i64 g.br, .int .i64 g.par, .int .i64 g.bch] 41)).heap.size) := ⟨by simp⟩
      obtain ⟨R, hR⟩ : ∃ R, Lx.firstT defs CL 0 = R := ⟨_, rfl⟩
      have hpk : Lx.pickG defs L g = pickO R nc := by
        rw [pickG_eq, hm, Nat.add_sub_cancel, hCL, hR, hnc]
      have hft : ∀ (W : World) (base : Nat) (cv : Value), Cns W base cv CL → Below b2 w2 W → Calls Tryz.prog 54 #[cv, .func (.func 55) #[] #[.pointer (some ⟨w.heap.size, 0, none⟩)]] W fun e w' => e = .returned (.int .i64 (placeOf R)) ∧ Below W.heap.size W w' := by
        intro W base cv hc hb
        have hbw : Below w.heap.size w W := HBW2.out.trans (hb.mono (by omega))
        have h := firstT_calls W base cv _ defs w.heap.size CL hc (by omega) (HL.out.below hbw) (HD.out.below hbw) ((hb.block _ hwb2).trans HBOX.out)
        rw [hR] at h
        exact h
      have HFT := Aside0.mk hft
      clear hg hat hcd hba hbwa hIa hLa hCL hnc hR hft hB12 hacx hglb hgbb hl0
      rw [hm] at a0
      clear hm
      cases R with
      | none =>
        have HPK := Aside0.mk hpk
        clear hpk
        go_wp2_with (first | (go_at_call 53; (refine (HCD.out).mono ?_); rintro e w3 ⟨v3, rfl, hcn, hb⟩; have hv3 : ∃ A c, v3 = .slice A nc c := (by obtain ⟨ps, e1, e2, e3⟩ := hcn; exact own_slice (own_cast e2 HNC.out)); obtain ⟨A3, c3, rfl⟩ := hv3; have HCN3 := Aside0.mk hcn; have hB3 := (HBA.out.trans (hb.mono (Nat.le_of_lt HSA.out))); have HB3 := Aside0.mk hB3; have HFC := Aside0.mk (HFT.out w3 _ _ hcn (HBK.out.trans (hB3.mono hszk))); clear hcn hb hB3) | (go_at_call 54; (refine HFC.out.mono ?_); rintro e w4 ⟨rfl, hb⟩; have hB4 := HB3.out.trans (hb.mono HB3.out.size); have HB4 := Aside0.mk hB4; have HACC4 := Aside0.mk (own_kept_no HACC.out (grown_below (World.grownBy.refl wr none) hB4)); have HBK4 := Aside0.mk (HBK.out.trans (hB4.mono hszk)); have hsz4 : b2 ≤ w4.heap.size := Nat.le_trans hszk hB4.size; clear hb hB4; unfold placeOf) | (at_builtin; refine print_append_cells (w0 := w2) (W := w4) b2 rfl (.tmp 39) (.tmp 41) 39 3 (.int .i64 0) 1 8 rfl Tryz.underlying39 info3 rfl (by decide) (by decide) u9 al (intCells acc) [.int .i64 (nc : Int)] (by rfl) (by simp [Act.eval]) rfl (by simp [Value.oneCell']) HACC4.out HBK4.out hsz4 (by omega) ?_; intro v5 w5 hv5 hb5 hg5 hat5; have HV5 := Aside0.mk hv5; have HB5 := Aside0.mk hb5; have hsz5 := hg5.size; clear hv5 hb5 hg5 hat5))
        go_roundg (gn - (i + 1))
        case measure => have := HJ.out; omega
        case rel =>
          refine ⟨i + 1, acc ++ [((nc : Int) : Int)], by go_num, ⟨by omega, rfl, ?_, by rw [List.length_append, List.length_singleton, HAL.out, HALI.out]⟩, ⟨?_⟩, HB5, by omega⟩
          · rw [← HACX.out, HPK.out]; rfl
          · have h2 := HV5.out
            unfold intCells at h2 ⊢
            rw [List.length_append, List.length_singleton, HAL.out, List.map_append]
            exact h2
      | some j =>
        have HPK := Aside0.mk hpk
        clear hpk
        go_wp2_with (first | (go_at_call 53; (refine (HCD.out).mono ?_); rintro e w3 ⟨v3, rfl, hcn, hb⟩; have hv3 : ∃ A c, v3 = .slice A nc c := (by obtain ⟨ps, e1, e2, e3⟩ := hcn; exact own_slice (own_cast e2 HNC.out)); obtain ⟨A3, c3, rfl⟩ := hv3; have HCN3 := Aside0.mk hcn; have hB3 := (HBA.out.trans (hb.mono (Nat.le_of_lt HSA.out))); have HB3 := Aside0.mk hB3; have HFC := Aside0.mk (HFT.out w3 _ _ hcn (HBK.out.trans (hB3.mono hszk))); clear hcn hb hB3) | (go_at_call 54; (refine HFC.out.mono ?_); rintro e w4 ⟨rfl, hb⟩; have hB4 := HB3.out.trans (hb.mono HB3.out.size); have HB4 := Aside0.mk hB4; have HACC4 := Aside0.mk (own_kept_no HACC.out (grown_below (World.grownBy.refl wr none) hB4)); have HBK4 := Aside0.mk (HBK.out.trans (hB4.mono hszk)); have hsz4 : b2 ≤ w4.heap.size := Nat.le_trans hszk hB4.size; clear hb hB4; unfold placeOf) | (at_builtin; refine print_append_cells (w0 := w2) (W := w4) b2 rfl (.tmp 39) (.tmp 41) 39 3 (.int .i64 0) 1 8 rfl Tryz.underlying39 info3 rfl (by decide) (by decide) u9 al (intCells acc) [.int .i64 (j : Int)] (by rfl) (by simp [Act.eval]) rfl (by simp [Value.oneCell']) HACC4.out HBK4.out hsz4 (by omega) ?_; intro v5 w5 hv5 hb5 hg5 hat5; have HV5 := Aside0.mk hv5; have HB5 := Aside0.mk hb5; have hsz5 := hg5.size; clear hv5 hb5 hg5 hat5))
        go_roundg (gn - (i + 1))
        case measure => have := HJ.out; omega
        case rel =>
          refine ⟨i + 1, acc ++ [((j : Int) : Int)], by go_num, ⟨by omega, rfl, ?_, by rw [List.length_append, List.length_singleton, HAL.out, HALI.out]⟩, ⟨?_⟩, HB5, by omega⟩
          · rw [← HACX.out, HPK.out]; rfl
          · have h2 := HV5.out
            unfold intCells at h2 ⊢
            rw [List.length_append, List.length_singleton, HAL.out, List.map_append]
            exact h2
    · obtain rfl : i = gn := by omega
      go_wp2_with fail
      go_ret2
      have e1 : acc = gs.map (Lx.pickG defs L) := by rw [HJ.out.2.2.1, List.take_of_length_le (by have := HGN.out; omega)]
      refine ⟨_, rfl, ?_, HBW2.out.trans (HBK.out.mono (by omega))⟩
      rw [← e1]
      exact own_ints HACC0.out
end Go.Proofs.YtjnafjgonoficaaGreatDoor
namespace Go.Proofs.YtjnafjgonoficaaGreatDoor
open Go.RowKit Go.Proofs.YtjnafjgonoficaaGreatDoorW.PrintWords
set_option linter.unusedVariables false
set_option linter.unusedSimpArgs false
theorem tks_any {W : World} {A : Option Addr} {R : Nat} {r : List Lx.Tok} (hR : r.length = R) (h0 : R = 0) : Tks W (.slice A R 0) r := ⟨A, 0, by rw [hR], by omega, Nat.zero_le _, .inl (List.eq_nil_of_length_eq_zero (hR.trans h0))⟩
theorem tks_tail {W : World} {base g c R : Nat} {w0 : Lx.Tok} {r : List Lx.Tok} (h : W.ownsRow base 29 4 (.slice (some ⟨g, 0, none⟩) (R + 1) c) (R + 1) (tokCells (w0 :: r))) (hR : r.length = R) : Tks W (.slice (some ⟨g, 4, none⟩) R (c - 1)) r := by
  subst hR
  have h1 := (own_tks (L := w0 :: r) h).tail
  rw [Nat.zero_add] at h1
  exact h1
set_option maxRecDepth 100000 in
set_option maxHeartbeats 8000000 in
theorem refexpr_calls (t : Lx.Tok) (dv : Value) (defs : List (ByteArray × ByteArray)) (w : World) (hts : t.t.size ≤ 20000) (hD : Dfs w dv defs) (hE : Lx.isExpr (Lx.kindOf t) = true) :
    Calls Tryz.prog 56 #[tokV t, dv] w fun e w' => e = .returned (.bool ((Lx.evR Lx.numB (Lx.valOf defs) (Lx.wdOf t).tail).1 != 0)) ∧ Below w.heap.size w w' := by
  obtain ⟨w0, r, p, hw, -, -, -⟩ := Lx.expr_words t hE
  have hB0 : Below w.heap.size w (w.alloc (.cells #[.int .i64 t.k, .string t.b, .string t.t, .int .i64 t.a] 29)) := (Below.refl _ _).alloc (Nat.le_refl _) _
  have HB0 := Aside0.mk hB0
  have hx0 := blk_new w (.cells #[.int .i64 t.k, .string t.b, .string t.t, .int .i64 t.a] 29)
  have e0 : (w.alloc (.cells #[.int .i64 t.k, .string t.b, .string t.t, .int .i64 t.a] 29)).cell? ⟨w.heap.size, 0, none⟩ = some (.int .i64 t.k) := by rw [blk_cell hx0]; rfl
  have e1 : (w.alloc (.cells #[.int .i64 t.k, .string t.b, .string t.t, .int .i64 t.a] 29)).cell? ⟨w.heap.size, 1, none⟩ = some (.string t.b) := by rw [blk_cell hx0]; rfl
  have e2 : (w.alloc (.cells #[.int .i64 t.k, .string t.b, .string t.t, .int .i64 t.a] 29)).cell? ⟨w.heap.size, 2, none⟩ = some (.string t.t) := by rw [blk_cell hx0]; rfl
  have e3 : (w.alloc (.cells #[.int .i64 t.k, .string t.b, .string t.t, .int .i64 t.a] 29)).cell? ⟨w.heap.size, 3, none⟩ = some (.int .i64 t.a) := by rw [blk_cell hx0]; rfl
  have hwd : ∀ W, Below w.heap.size w W → Calls Tryz.prog 12 #[tokV t] W fun e w' => ∃ v, e = .returned (.tuple #[v, .int .i64 (if Lx.isDir t = true then 0 else 3)]) ∧ w'.ownsRow W.heap.size 29 4 v (Lx.wdOf t).length (tokCells (Lx.wdOf t)) ∧ Below W.heap.size W w' := fun W hb => refWords_calls t W hts
  have hkd : ∀ W, Below w.heap.size w W → Calls Tryz.prog 14 #[tokV t] W fun e w' => e = .returned (.string (Lx.kindOf t)) ∧ Below W.heap.size W w' := fun W hb => refKind_calls t W hts
  unfold tokV at hwd hkd
  obtain ⟨er, her⟩ : ∃ er : Int, (if Lx.isDir t = true then 0 else 3) = er := ⟨_, rfl⟩
  rw [her] at hwd
  have hNl := Lx.wdOf_len t
  have hok := Lx.wdOf_ok t
  obtain ⟨N, hN⟩ : ∃ N, (Lx.wdOf t).length = N := ⟨_, rfl⟩
  rw [hN] at hNl
  have hD1 := hD
  obtain ⟨DA, DC, rfl, -⟩ := hD1
  obtain ⟨dn, hdn⟩ : ∃ dn, defs.length = dn := ⟨_, rfl⟩
  rw [hdn] at hD ⊢
  have HD := Aside0.mk hD
  have hev : ∀ W A c, Below w.heap.size w W → Tks W (.slice A r.length c) r → Calls Tryz.prog 52 #[.slice A r.length c, .slice DA dn DC] W fun e w' => e = .returned (.tuple #[.int .i64 (Lx.evR Lx.numB (Lx.valOf defs) r).1, .bool (Lx.evR Lx.numB (Lx.valOf defs) r).2]) ∧ Below W.heap.size W w' := by
    intro W A c hb ht
    exact refeval_any W A r.length c _ r defs (t.t.size + 1) (by omega) ht (by rw [hw, List.length_cons] at hN; omega) (fun x hx => hok x (by rw [hw]; exact List.mem_cons_of_mem _ hx)) (hD.below hb)
  have hu0 : (Lx.wdOf t)[0]? = some w0 := by rw [hw]; rfl
  have htl : (Lx.wdOf t).tail = r := by rw [hw]; rfl
  rw [htl]
  unfold tokV
  obtain ⟨K, hK⟩ : ∃ K, Lx.kindOf t = K := ⟨_, rfl⟩
  obtain ⟨ws, hws⟩ : ∃ ws, Lx.wdOf t = ws := ⟨_, rfl⟩
  rw [hK] at hkd hE
  rw [hws] at hwd hN hw hu0
  obtain ⟨R, hR⟩ : ∃ R, r.length = R := ⟨_, rfl⟩
  have hNR : N = R + 1 := by rw [← hN, hw, List.length_cons, hR]
  subst hNR
  rw [hR] at hev
  obtain ⟨V, hV⟩ : ∃ V, Lx.evR Lx.numB (Lx.valOf defs) r = V := ⟨_, rfl⟩
  rw [hV] at hev ⊢
  obtain ⟨v1, v2⟩ := V
  dsimp only at hev ⊢
  have HWD := Aside0.mk hwd
  have HKD := Aside0.mk hkd
  have HWN := Aside0.mk hN
  have HU := Aside0.mk hu0
  have HEV := Aside0.mk hev
  have HR := Aside0.mk hR
  have HWS := Aside0.mk hw
  obtain ⟨qe, hqe⟩ : ∃ qe, (K.toList == [105, 102]) = qe := ⟨_, rfl⟩
  have hqe2 : (K.toList == [101, 108, 105, 102]) = !qe := by
    unfold Lx.isExpr at hE
    rw [hqe] at hE
    cases qe
    · rw [Bool.false_or] at hE; exact hE
    · rw [beq_iff_eq.mp hqe]; rfl
  clear hB0 hx0 hwd hkd her hok hD hdn hev hu0 htl hK hws hw hR hV hN hE hts
  cases qe
  all_goals
    go_enter Tryz.func56, Tryz.ntmps56
    go_wp2_with (first | (go_at_call 12; (refine (HWD.out _ HB0.out).mono ?_); rintro e w2 ⟨v2, rfl, hown2, hb2⟩; have hown2 := own_cast hown2 HWN.out; (obtain ⟨g2, cp2, rfl, hcp2, hg2b, hg2l, o0, o1, o2, o3⟩ := own_at hown2 HWN.out HU.out); have HO2 := Aside0.mk hown2; have HB2 := Aside0.mk (HB0.out.trans (hb2.mono HB0.out.size)); have k0 := (hb2.cell (p := ⟨w.heap.size, 0, none⟩) (show w.heap.size < _ by simp)).trans e0; have k1 := (hb2.cell (p := ⟨w.heap.size, 1, none⟩) (show w.heap.size < _ by simp)).trans e1; have k2 := (hb2.cell (p := ⟨w.heap.size, 2, none⟩) (show w.heap.size < _ by simp)).trans e2; have k3 := (hb2.cell (p := ⟨w.heap.size, 3, none⟩) (show w.heap.size < _ by simp)).trans e3; have hwl2 : w.heap.size < w2.heap.size := Nat.lt_of_lt_of_le (by simp) hb2.size; simp only [Nat.one_mul, Nat.zero_mul, Nat.zero_add] at o0 o1 o2 o3; clear hown2 hb2) | (go_at_call 14; (refine (HKD.out _ HB2.out).mono ?_); rintro e w3 ⟨rfl, hb3⟩; have c0 := (hb3.cell hg2l).trans o0; have c1 := (hb3.cell hg2l).trans o1; have c2 := (hb3.cell hg2l).trans o2; have c3 := (hb3.cell hg2l).trans o3; have hg3l : g2 < w3.heap.size := Nat.lt_of_lt_of_le hg2l hb3.size; have HO3 := Aside0.mk (own_kept_no HO2.out (grown_below (World.grownBy.refl _ none) hb3)); have HB3 := Aside0.mk (HB2.out.trans (hb3.mono HB2.out.size)); clear hb3 o0 o1 o2 o3) | (go_at_call 52; (refine (HEV.out _ _ _ HB3.out (by first | exact tks_tail (HWS.out ▸ HO3.out) HR.out | exact tks_any HR.out (by omega))).mono ?_); rintro e w4 ⟨rfl, hb4⟩; have HB4 := Aside0.mk (HB3.out.trans (hb4.mono HB3.out.size)); clear hb4))
    all_goals go_ret
    all_goals exact ⟨rfl, HB4.out⟩
theorem calc_rc (W : World) (dv : Value) : RC W (W.alloc (.cells #[.slice none 0 0, .int .i64 0, .bool false, dv] 124)) none 0 0 dv [] ⟨[], false⟩ := by
  refine ⟨⟨none, 0, rfl, Nat.le_refl _, Nat.zero_le _, .inl rfl⟩, 0, Nat.le_refl _, rfl, ?_, (Below.refl _ _).alloc (Nat.le_refl _) _⟩
  exact blk_new W _
set_option maxRecDepth 100000 in
set_option maxHeartbeats 8000000 in
theorem refdfn_calls (t : Lx.Tok) (dv : Value) (defs : List (ByteArray × ByteArray)) (w : World) (hts : t.t.size ≤ 20000) (hD : Dfs w dv defs) (hE : Lx.isExpr (Lx.kindOf t) = false) (hDf : Lx.isDfn (Lx.kindOf t) = true) :
    Calls Tryz.prog 56 #[tokV t, dv] w fun e w' => e = .returned (.bool ((match Lx.wdOf t with | _ :: u :: _ => if u.k = 1 then (Lx.valOf defs u.t).2 else false | _ => false) == ((Lx.kindOf t).toList == [105, 102, 100, 101, 102]))) ∧ Below w.heap.size w w' := by
  obtain ⟨-, w0, r, hw, -⟩ := Lx.kind_first t (.inr hDf)
  have hB0 : Below w.heap.size w (w.alloc (.cells #[.int .i64 t.k, .string t.b, .string t.t, .int .i64 t.a] 29)) := (Below.refl _ _).alloc (Nat.le_refl _) _
  have HB0 := Aside0.mk hB0
  have hx0 := blk_new w (.cells #[.int .i64 t.k, .string t.b, .string t.t, .int .i64 t.a] 29)
  have e0 : (w.alloc (.cells #[.int .i64 t.k, .string t.b, .string t.t, .int .i64 t.a] 29)).cell? ⟨w.heap.size, 0, none⟩ = some (.int .i64 t.k) := by rw [blk_cell hx0]; rfl
  have e1 : (w.alloc (.cells #[.int .i64 t.k, .string t.b, .string t.t, .int .i64 t.a] 29)).cell? ⟨w.heap.size, 1, none⟩ = some (.string t.b) := by rw [blk_cell hx0]; rfl
  have e2 : (w.alloc (.cells #[.int .i64 t.k, .string t.b, .string t.t, .int .i64 t.a] 29)).cell? ⟨w.heap.size, 2, none⟩ = some (.string t.t) := by rw [blk_cell hx0]; rfl
  have e3 : (w.alloc (.cells #[.int .i64 t.k, .string t.b, .string t.t, .int .i64 t.a] 29)).cell? ⟨w.heap.size, 3, none⟩ = some (.int .i64 t.a) := by rw [blk_cell hx0]; rfl
  have hwd : ∀ W, Below w.heap.size w W → Calls Tryz.prog 12 #[tokV t] W fun e w' => ∃ v, e = .returned (.tuple #[v, .int .i64 (if Lx.isDir t = true then 0 else 3)]) ∧ w'.ownsRow W.heap.size 29 4 v (Lx.wdOf t).length (tokCells (Lx.wdOf t)) ∧ Below W.heap.size W w' := fun W hb => refWords_calls t W hts
  have hkd : ∀ W, Below w.heap.size w W → Calls Tryz.prog 14 #[tokV t] W fun e w' => e = .returned (.string (Lx.kindOf t)) ∧ Below W.heap.size W w' := fun W hb => refKind_calls t W hts
  unfold tokV at hwd hkd
  obtain ⟨er, her⟩ : ∃ er : Int, (if Lx.isDir t = true then 0 else 3) = er := ⟨_, rfl⟩
  rw [her] at hwd
  have hNl := Lx.wdOf_len t
  have hok := Lx.wdOf_ok t
  obtain ⟨N, hN⟩ : ∃ N, (Lx.wdOf t).length = N := ⟨_, rfl⟩
  rw [hN] at hNl
  have hD1 := hD
  obtain ⟨DA, DC, rfl, -⟩ := hD1
  obtain ⟨dn, hdn⟩ : ∃ dn, defs.length = dn := ⟨_, rfl⟩
  rw [hdn] at hD ⊢
  have HD := Aside0.mk hD
  unfold tokV
  obtain ⟨K, hK⟩ : ∃ K, Lx.kindOf t = K := ⟨_, rfl⟩
  obtain ⟨ws, hws⟩ : ∃ ws, Lx.wdOf t = ws := ⟨_, rfl⟩
  rw [hK] at hkd hE hDf ⊢
  rw [hws] at hwd hN hw hok ⊢
  have HWD := Aside0.mk hwd
  have HKD := Aside0.mk hkd
  have HWN := Aside0.mk hN
  have hE1 : (K.toList == [105, 102]) = false := by unfold Lx.isExpr at hE; rw [Bool.or_eq_false_iff] at hE; exact hE.1
  have hE2 : (K.toList == [101, 108, 105, 102]) = false := by unfold Lx.isExpr at hE; rw [Bool.or_eq_false_iff] at hE; exact hE.2
  obtain ⟨q, hq⟩ : ∃ q, (K.toList == [105, 102, 100, 101, 102]) = q := ⟨_, rfl⟩
  rw [hq]
  clear hB0 hx0 hwd hkd her hdn hK hws hE hDf hts
  cases r with
  | nil =>
    subst hw
    have hu0 : [w0][0]? = some w0 := rfl
    have HU := Aside0.mk hu0
    obtain rfl : N = 1 := by rw [← hN]; rfl
    clear hu0 hN hok hD
    cases q
    all_goals
      go_enter Tryz.func56, Tryz.ntmps56
      go_wp2_with (first | (go_at_call 12; (refine (HWD.out _ HB0.out).mono ?_); rintro e w2 ⟨v2, rfl, hown2, hb2⟩; have hown2 := own_cast hown2 HWN.out; (obtain ⟨g2, cp2, rfl, hcp2, hg2b, hg2l, o0, o1, o2, o3⟩ := own_at hown2 HWN.out HU.out); have HO2 := Aside0.mk hown2; have HB2 := Aside0.mk (HB0.out.trans (hb2.mono HB0.out.size)); have k0 := (hb2.cell (p := ⟨w.heap.size, 0, none⟩) (show w.heap.size < _ by simp)).trans e0; have k1 := (hb2.cell (p := ⟨w.heap.size, 1, none⟩) (show w.heap.size < _ by simp)).trans e1; have k2 := (hb2.cell (p := ⟨w.heap.size, 2, none⟩) (show w.heap.size < _ by simp)).trans e2; have k3 := (hb2.cell (p := ⟨w.heap.size, 3, none⟩) (show w.heap.size < _ by simp)).trans e3; have hwl2 : w.heap.size < w2.heap.size := Nat.lt_of_lt_of_le (by simp) hb2.size; simp only [Nat.one_mul, Nat.zero_mul, Nat.zero_add] at o0 o1 o2 o3; clear hown2 hb2) | (go_at_call 14; (refine (HKD.out _ HB2.out).mono ?_); rintro e w3 ⟨rfl, hb3⟩; have c0 := (hb3.cell hg2l).trans o0; have c1 := (hb3.cell hg2l).trans o1; have c2 := (hb3.cell hg2l).trans o2; have c3 := (hb3.cell hg2l).trans o3; have hg3l : g2 < w3.heap.size := Nat.lt_of_lt_of_le hg2l hb3.size; have HO3 := Aside0.mk (own_kept_no HO2.out (grown_below (World.grownBy.refl _ none) hb3)); have HB3 := Aside0.mk (HB2.out.trans (hb3.mono HB2.out.size)); clear hb3 o0 o1 o2 o3))
      go_ret
      exact ⟨rfl, HB3.out⟩
  | cons u r =>
    subst hw
    have hu0 : (w0 :: u :: r)[1]? = some u := rfl
    have HU := Aside0.mk hu0
    have h1N : (1 : Int) < (N : Int) := by rw [← hN]; simp only [List.length_cons]; omega
    have h1N2 : 1 < N := by omega
    have hfv : ∀ W, Below w.heap.size w W → Calls Tryz.prog 92 #[.pointer (some ⟨W.heap.size, 0, none⟩), .string u.t] (W.alloc (.cells #[.slice none 0 0, .int .i64 0, .bool false, .slice DA dn DC] 124)) fun e w' => e = .returned (.tuple #[.int .i64 (Lx.valOf defs u.t).1, .bool (Lx.valOf defs u.t).2]) ∧ w' = (W.alloc (.cells #[.slice none 0 0, .int .i64 0, .bool false, .slice DA dn DC] 124)) :=
      fun W hb => refval_calls W _ none 0 0 _ [] ⟨[], false⟩ defs u.t (calc_rc W _) (hD.below hb)
    show Calls _ _ _ _ fun e w' => e = .returned (.bool ((if u.k = 1 then (Lx.valOf defs u.t).2 else false) == q)) ∧ _
    obtain ⟨V, hV⟩ : ∃ V, Lx.valOf defs u.t = V := ⟨_, rfl⟩
    rw [hV] at hfv ⊢
    obtain ⟨v1, v2⟩ := V
    dsimp only at hfv ⊢
    have HFV := Aside0.mk hfv
    obtain ⟨uk, huk⟩ : ∃ uk, (u.k == 1) = uk := ⟨_, rfl⟩
    clear hu0 hN hok hD hfv hV
    cases uk
    · rw [if_neg (beq_eq_false_iff_ne.mp huk)]
      cases q
      all_goals
        go_enter Tryz.func56, Tryz.ntmps56
        go_wp2_with (first | (go_at_call 12; (refine (HWD.out _ HB0.out).mono ?_); rintro e w2 ⟨v2, rfl, hown2, hb2⟩; have hown2 := own_cast hown2 HWN.out; (obtain ⟨g2, cp2, rfl, hcp2, hg2b, hg2l, o0, o1, o2, o3⟩ := own_at hown2 HWN.out HU.out); have HO2 := Aside0.mk hown2; have HB2 := Aside0.mk (HB0.out.trans (hb2.mono HB0.out.size)); have k0 := (hb2.cell (p := ⟨w.heap.size, 0, none⟩) (show w.heap.size < _ by simp)).trans e0; have k1 := (hb2.cell (p := ⟨w.heap.size, 1, none⟩) (show w.heap.size < _ by simp)).trans e1; have k2 := (hb2.cell (p := ⟨w.heap.size, 2, none⟩) (show w.heap.size < _ by simp)).trans e2; have k3 := (hb2.cell (p := ⟨w.heap.size, 3, none⟩) (show w.heap.size < _ by simp)).trans e3; have hwl2 : w.heap.size < w2.heap.size := Nat.lt_of_lt_of_le (by simp) hb2.size; simp only [Nat.one_mul, Nat.zero_mul, Nat.zero_add] at o0 o1 o2 o3; clear hown2 hb2) | (go_at_call 14; (refine (HKD.out _ HB2.out).mono ?_); rintro e w3 ⟨rfl, hb3⟩; have c0 := (hb3.cell hg2l).trans o0; have c1 := (hb3.cell hg2l).trans o1; have c2 := (hb3.cell hg2l).trans o2; have c3 := (hb3.cell hg2l).trans o3; have hg3l : g2 < w3.heap.size := Nat.lt_of_lt_of_le hg2l hb3.size; have HO3 := Aside0.mk (own_kept_no HO2.out (grown_below (World.grownBy.refl _ none) hb3)); have HB3 := Aside0.mk (HB2.out.trans (hb3.mono HB2.out.size)); clear hb3 o0 o1 o2 o3))
        go_ret
        exact ⟨rfl, HB3.out⟩
    · rw [if_pos (beq_iff_eq.mp huk)]
      cases v2 <;> cases q
      all_goals
        go_enter Tryz.func56, Tryz.ntmps56
        go_wp2_with (first | (go_at_call 12; (refine (HWD.out _ HB0.out).mono ?_); rintro e w2 ⟨v2, rfl, hown2, hb2⟩; have hown2 := own_cast hown2 HWN.out; (obtain ⟨g2, cp2, rfl, hcp2, hg2b, hg2l, o0, o1, o2, o3⟩ := own_at hown2 HWN.out HU.out); have HO2 := Aside0.mk hown2; have HB2 := Aside0.mk (HB0.out.trans (hb2.mono HB0.out.size)); have k0 := (hb2.cell (p := ⟨w.heap.size, 0, none⟩) (show w.heap.size < _ by simp)).trans e0; have k1 := (hb2.cell (p := ⟨w.heap.size, 1, none⟩) (show w.heap.size < _ by simp)).trans e1; have k2 := (hb2.cell (p := ⟨w.heap.size, 2, none⟩) (show w.heap.size < _ by simp)).trans e2; have k3 := (hb2.cell (p := ⟨w.heap.size, 3, none⟩) (show w.heap.size < _ by simp)).trans e3; have hwl2 : w.heap.size < w2.heap.size := Nat.lt_of_lt_of_le (by simp) hb2.size; simp only [Nat.one_mul, Nat.zero_mul, Nat.zero_add] at o0 o1 o2 o3; clear hown2 hb2) | (go_at_call 14; (refine (HKD.out _ HB2.out).mono ?_); rintro e w3 ⟨rfl, hb3⟩; have c0 := (hb3.cell hg2l).trans o0; have c1 := (hb3.cell hg2l).trans o1; have c2 := (hb3.cell hg2l).trans o2; have c3 := (hb3.cell hg2l).trans o3; have hg3l : g2 < w3.heap.size := Nat.lt_of_lt_of_le hg2l hb3.size; have HO3 := Aside0.mk (own_kept_no HO2.out (grown_below (World.grownBy.refl _ none) hb3)); have HB3 := Aside0.mk (HB2.out.trans (hb3.mono HB2.out.size)); clear hb3 o0 o1 o2 o3) | (go_at_call 92; (refine (HFV.out w3 HB3.out).mono ?_); rintro e w4 ⟨rfl, rfl⟩))
        go_ret
        exact ⟨rfl, HB3.out.alloc HB3.out.size _⟩
theorem holds_calls (t : Lx.Tok) (dv : Value) (defs : List (ByteArray × ByteArray)) (w : World) (hts : t.t.size ≤ 20000) (hD : Dfs w dv defs) (hk : Lx.isExpr (Lx.kindOf t) = true ∨ Lx.isDfn (Lx.kindOf t) = true) :
    Calls Tryz.prog 56 #[tokV t, dv] w fun e w' => e = .returned (.bool (Lx.holdsT defs t)) ∧ Below w.heap.size w w' := by
  unfold Lx.holdsT
  cases hE : Lx.isExpr (Lx.kindOf t)
  · rw [if_neg Bool.false_ne_true]
    exact refdfn_calls t dv defs w hts hD hE (hk.resolve_left (by rw [hE]; exact Bool.false_ne_true))
  · rw [if_pos rfl]
    exact refexpr_calls t dv defs w hts hD hE
end Go.Proofs.YtjnafjgonoficaaGreatDoor
namespace Go.Proofs.YtjnafjgonoficaaGreatDoor
open Go.RowKit Go.Proofs.YtjnafjgonoficaaGreatDoorW.PrintWords
set_option linter.unusedVariables false
set_option linter.unusedSimpArgs false
namespace Lx
def nums (st : List (Nat × Nat × Bool)) : List Int := st.reverse.map fun p => (p.1 : Int)
def elses (st : List (Nat × Nat × Bool)) : List Bool := st.reverse.map fun p => p.2.2
theorem nums_cons (p : Nat × Nat × Bool) (r : List (Nat × Nat × Bool)) : nums (p :: r) = nums r ++ [(p.1 : Int)] := by unfold nums; simp
theorem elses_cons (p : Nat × Nat × Bool) (r : List (Nat × Nat × Bool)) : elses (p :: r) = elses r ++ [p.2.2] := by unfold elses; simp
theorem nums_len (r : List (Nat × Nat × Bool)) : (nums r).length = r.length := by unfold nums; simp
theorem elses_len (r : List (Nat × Nat × Bool)) : (elses r).length = r.length := by unfold elses; simp
end Lx
def boolCells (l : List Bool) : List Value := l.map fun x => .bool x
theorem intCells_snoc (l : List Int) (x : Int) : intCells (l ++ [x]) = intCells l ++ [.int .i64 x] := by unfold intCells; rw [List.map_append]; rfl
theorem boolCells_snoc (l : List Bool) (x : Bool) : boolCells (l ++ [x]) = boolCells l ++ [.bool x] := by unfold boolCells; rw [List.map_append]; rfl
def RSc (w : World) (base : Nat) (u7 u8 u9 : Value) (S : Lx.GS) (ls : List Value) : Prop := ls.length = S.gs.length ∧ w.ownsRow base 42 4 u7 S.gs.length (gcells ls S.gs) ∧ RowsAt w base ls S.gs ∧
  w.ownsRow base 3 1 u8 S.st.length (intCells (Lx.nums S.st)) ∧ w.ownsRow base 4 1 u9 S.st.length (boolCells (Lx.elses S.st)) ∧ ∀ (i : Nat) (l : Value), ls[i]? = some l → l.ownBlock ≠ u8.ownBlock
def RS (w : World) (base : Nat) (u7 u8 u9 : Value) (S : Lx.GS) : Prop := ∃ ls, RSc w base u7 u8 u9 S ls
theorem RSc.no {w w' : World} {base : Nat} {u7 u8 u9 : Value} {S : Lx.GS} {ls : List Value} (h : RSc w base u7 u8 u9 S ls) (hg : w.grownBy w' none) : RSc w' base u7 u8 u9 S ls := by
  obtain ⟨h1, h2, h3, h4, h5, h6⟩ := h
  exact ⟨h1, own_kept_no h2 hg, h3.no hg, own_kept_no h4 hg, own_kept_no h5 hg, h6⟩
theorem rs_push {w w1 w2 w3 : World} {base i R0 : Nat} {u7 u8 u9 v7 v8 v9 : Value} {par bch br : Int} {S : Lx.GS} {ls : List Value} (h : RSc w base u7 u8 u9 S ls) (hb : base ≤ R0) (HR : w.heap[R0]? = some (.cells #[.int .i64 i] 3 (0, 0)))
    (hn1 : ∀ (i : Nat) (l : Value), ls[i]? = some l → l.ownBlock ≠ some R0) (hn2 : u8.ownBlock ≠ some R0)
    (h1 : w1.ownsRow base 3 1 v8 (S.st.length + 1) (intCells (Lx.nums S.st) ++ [.int .i64 S.gs.length])) (g1 : w.grownBy w1 u8.ownBlock) (a1 : v8.ownBlock = u8.ownBlock ∨ ∃ b, v8.ownBlock = some b ∧ w.heap.size ≤ b)
    (h2 : w2.ownsRow base 4 1 v9 (S.st.length + 1) (boolCells (Lx.elses S.st) ++ [.bool false])) (g2 : w1.grownBy w2 u9.ownBlock)
    (h3 : w3.ownsRow base 42 4 v7 (S.gs.length + 1) (gcells ls S.gs ++ [.slice (some ⟨R0, 0, none⟩) 1 1, .int .i64 br, .int .i64 par, .int .i64 bch])) (g3 : w2.grownBy w3 u7.ownBlock) :
    RS w3 base v7 v8 v9 ⟨S.gs ++ [⟨[(i : Int)], br, par, bch⟩], (S.gs.length, 0, false) :: S.st⟩ := by
  obtain ⟨hl, o7, hr, o8, o9, hd⟩ := h
  have o71 := own_kept_row o7 o8 g1 (by decide)
  have o91 := own_kept_row o9 o8 g1 (by decide)
  have o72 := own_kept_row o71 o91 g2 (by decide)
  have h12 := own_kept_row h1 o91 g2 (by decide)
  have h13 := own_kept_row h12 o72 g3 (by decide)
  have h23 := own_kept_row h2 o72 g3 (by decide)
  have r1 : RowsAt w1 base ls S.gs := ⟨fun j l g e1 e2 => ⟨(hr.1 j l g e1 e2).1, (hr.1 j l g e1 e2).2.kept g1 (.inr (hd j l e1))⟩, hr.2⟩
  have r3 := (r1.row o91 g2 (by decide)).row o72 g3 (by decide)
  have R1 := (g1.block R0 (blk_lt HR) (fun e => hn2 e.symm)).trans HR
  have R2 := (g2.block R0 (blk_lt R1) (own_ne o91 R1 (by decide))).trans R1
  have R3 := (g3.block R0 (blk_lt R2) (own_ne o72 R2 (by decide))).trans R2
  refine ⟨ls ++ [.slice (some ⟨R0, 0, none⟩) 1 1], by simp [hl], ?_, ?_, ?_, ?_, ?_⟩
  · rw [gcells_push ls S.gs _ _ hl]
    simpa using h3
  · refine r3.push hl (by simp) ⟨rfl, .inr ⟨R0, 1, _, rfl, hb, R3, by simp, by unfold maxLen; omega, rfl, rfl⟩⟩ (fun j l e => ?_)
    exact hn1 j l e
  · dsimp only
    rw [Lx.nums_cons, intCells_snoc]
    exact h13
  · dsimp only
    rw [Lx.elses_cons, boolCells_snoc]
    exact h23
  · intro j l e
    by_cases hj : j < ls.length
    · rw [List.getElem?_append_left hj] at e
      rcases a1 with a1 | ⟨b, a1, hb1⟩
      · rw [a1]; exact hd j l e
      · rw [a1]; intro e2
        have hj2 : j < S.gs.length := by omega
        have := own_lt (hr.1 j l _ e (List.getElem?_eq_getElem hj2)).2 _ e2
        omega
    · rw [List.getElem?_append_right (by omega)] at e
      have hj0 : j - ls.length = 0 := by
        have := (List.getElem?_eq_some_iff.1 e).1
        simp at this; omega
      rw [hj0] at e
      simp at e
      subst e
      intro e2
      have e3 : v8.ownBlock = some R0 := e2.symm
      rcases a1 with a1 | ⟨b, a1, hb1⟩
      · exact hn2 (a1.symm.trans e3)
      · rw [a1] at e3
        have := Option.some.inj e3
        have := blk_lt HR
        omega
theorem rs_line {w w1 : World} {base gb N c n : Nat} {S : Lx.GS} {u8 u9 lv v1 : Value} {ls : List Value} {g : Lx.G} {i : Int} (h : RSc w base (.slice (some ⟨gb, 0, none⟩) N c) u8 u9 S ls) (hm : ls[n]? = some lv) (hg : S.gs[n]? = some g)
    (hw : w.grownBy w1 lv.ownBlock) (ho : w1.ownsRow base 3 1 v1 (g.lines.length + 1) (intCells g.lines ++ [.int .i64 i])) (hat : v1.ownBlock = lv.ownBlock ∨ ∃ b, v1.ownBlock = some b ∧ w.heap.size ≤ b) :
    RSc (w1.setCell ⟨gb, n * 4, none⟩ v1) base (.slice (some ⟨gb, 0, none⟩) N c) u8 u9 ⟨S.gs.modify n fun g => ⟨g.lines ++ [i], g.br, g.par, g.bch⟩, S.st⟩ (ls.set n v1) := by
  obtain ⟨hll, hown, hrows, o8, o9, hd⟩ := h
  have hNe : S.gs.length = N := by
    rcases hown.2 with ⟨h', _⟩ | ⟨g', cap', cur, h', _⟩
    · simp at h'
    · simp only [Value.slice.injEq] at h'; exact h'.2.1.symm
  rw [hNe] at hown
  have hlvo := (hrows.1 n lv g hm hg).2
  have hml : n < ls.length := (List.getElem?_eq_some_iff.1 hm).1
  have hown1 := own_kept_row hown hlvo hw (by decide)
  obtain ⟨cur1, hcur1, -⟩ := own_heap hown1
  have hset : w1.grownBy (w1.setCell ⟨gb, n * 4, none⟩ v1) (some gb) := grown_set (World.grownBy.refl _ _) _ _
  have hrows1 := hrows.grow (g' := ⟨g.lines ++ [i], g.br, g.par, g.bch⟩) hll hm hg hw (by simp) (by
    rw [intCells_snoc]; simpa using ho) hat
  have e2 : S.gs.modify n (fun g => ⟨g.lines ++ [i], g.br, g.par, g.bch⟩) = S.gs.set n ⟨g.lines ++ [i], g.br, g.par, g.bch⟩ := by
    exact modify_set _ _ _ _ hg
  have o81 := o8.kept hw (.inr (fun e => hd n lv hm e.symm))
  have o91 := own_kept_row o9 hlvo hw (by decide)
  refine ⟨by simp [hll], ?_, ?_, ?_, ?_, ?_⟩
  · dsimp only
    rw [List.length_modify, hNe, gcells_lines v1 (fun g => ⟨g.lines ++ [i], g.br, g.par, g.bch⟩) (fun g => ⟨rfl, rfl, rfl⟩) ls S.gs n hll hml]
    exact (hown1.stored _ _).1
  · dsimp only
    rw [e2]
    exact hrows1.ty hset hcur1 (by decide)
  · exact own_kept_ty o81 hset hcur1 (by decide)
  · exact own_kept_ty o91 hset hcur1 (by decide)
  · intro j l e
    by_cases hj : j = n
    · subst hj
      rw [List.getElem?_set_self hml] at e
      cases e
      rcases hat with e2 | ⟨b, e2, hb⟩
      · rw [e2]; exact hd j lv hm
      · rw [e2]; intro e3
        have := own_lt o8 _ e3.symm
        omega
    · rw [List.getElem?_set_ne (fun e => hj e.symm)] at e
      exact hd j l e
theorem rs_br {w : World} {base gb N c n : Nat} {S : Lx.GS} {u8 u9 : Value} {ls : List Value} (x : Int) (h : RSc w base (.slice (some ⟨gb, 0, none⟩) N c) u8 u9 S ls) (hn : n < S.gs.length) :
    RSc (w.setCell ⟨gb, n * 4 + 1, none⟩ (.int .i64 x)) base (.slice (some ⟨gb, 0, none⟩) N c) u8 u9 ⟨S.gs.modify n fun g => ⟨g.lines, x, g.par, g.bch⟩, S.st⟩ ls := by
  obtain ⟨hll, hown, hrows, o8, o9, hd⟩ := h
  have hNe : S.gs.length = N := by
    rcases hown.2 with ⟨h', _⟩ | ⟨g', cap', cur, h', _⟩
    · simp at h'
    · simp only [Value.slice.injEq] at h'; exact h'.2.1.symm
  rw [hNe] at hown
  obtain ⟨cur, hcur, hbg⟩ := own_heap hown
  have hset : w.grownBy (w.setCell ⟨gb, n * 4 + 1, none⟩ (.int .i64 x)) (some gb) := grown_set (World.grownBy.refl _ _) _ _
  refine ⟨by simp [hll], ?_, ?_, own_kept_ty o8 hset hcur (by decide), own_kept_ty o9 hset hcur (by decide), hd⟩
  · dsimp only
    rw [List.length_modify, hNe, gcells_br x (fun g => ⟨g.lines, x, g.par, g.bch⟩) (fun g => ⟨rfl, rfl⟩) (fun g => rfl) ls S.gs n hll (by omega)]
    exact (hown.stored _ _).1
  · have h1 := hrows.ty hset hcur (by decide)
    constructor
    · intro j l g h2 h3
      dsimp only at h3
      rw [List.getElem?_modify] at h3
      obtain ⟨g0, h0, rfl⟩ := Option.map_eq_some_iff.1 h3
      have := h1.1 j l g0 h2 h0
      split
      · exact this
      · exact this
    · exact h1.2
theorem rs_else {w : World} {base g9 m c9 n b : Nat} {gs : List Lx.G} {e : Bool} {r : List (Nat × Nat × Bool)} {u7 u8 : Value} {ls : List Value} (e' : Bool) (b' : Nat) (h : RSc w base u7 u8 (.slice (some ⟨g9, 0, none⟩) m c9) ⟨gs, (n, b, e) :: r⟩ ls) :
    RSc (w.setCell ⟨g9, r.length, none⟩ (.bool e')) base u7 u8 (.slice (some ⟨g9, 0, none⟩) m c9) ⟨gs, (n, b', e') :: r⟩ ls := by
  obtain ⟨hll, hown, hrows, o8, o9, hd⟩ := h
  have hm : r.length + 1 = m := by
    rcases o9.2 with ⟨h', _⟩ | ⟨g', cap', cur, h', _⟩
    · simp at h'
    · simp only [Value.slice.injEq] at h'; exact h'.2.1.symm
  subst hm
  dsimp only at hll hown hrows o8 o9 hd
  rw [List.length_cons] at o8 o9
  obtain ⟨cur, hcur, hbg⟩ := own_heap o9
  have hset : w.grownBy (w.setCell ⟨g9, r.length, none⟩ (.bool e')) (some g9) := grown_set (World.grownBy.refl _ _) _ _
  refine ⟨hll, own_kept_ty hown hset hcur (by decide), hrows.ty hset hcur (by decide), ?_, ?_, hd⟩
  · have := own_kept_ty o8 hset hcur (by decide)
    dsimp only
    rw [Lx.nums_cons] at this ⊢
    exact this
  · dsimp only
    rw [List.length_cons]
    have := (o9.stored r.length (.bool e')).1
    rw [Lx.elses_cons, boolCells_snoc, List.set_append_right _ _ (by unfold boolCells; rw [List.length_map, Lx.elses_len]; exact Nat.le_refl _)] at this
    rw [Lx.elses_cons, boolCells_snoc]
    have e0 : r.length - (boolCells (Lx.elses r)).length = 0 := by unfold boolCells; rw [List.length_map, Lx.elses_len]; omega
    rw [e0] at this
    exact this
theorem rs_pop {w : World} {base g8 c8 g9 c9 n b : Nat} {gs : List Lx.G} {e : Bool} {r : List (Nat × Nat × Bool)} {u7 : Value} {ls : List Value}
    (h : RSc w base u7 (.slice (some ⟨g8, 0, none⟩) (r.length + 1) c8) (.slice (some ⟨g9, 0, none⟩) (r.length + 1) c9) ⟨gs, (n, b, e) :: r⟩ ls) :
    RSc w base u7 (.slice (some ⟨g8, 0, none⟩) r.length c8) (.slice (some ⟨g9, 0, none⟩) r.length c9) ⟨gs, r⟩ ls := by
  obtain ⟨hll, hown, hrows, o8, o9, hd⟩ := h
  dsimp only at o8 o9
  rw [List.length_cons, Lx.nums_cons, intCells_snoc] at o8
  rw [List.length_cons, Lx.elses_cons, boolCells_snoc] at o9
  exact ⟨hll, hown, hrows, ownsRow_pop (size := 1) (xs := intCells (Lx.nums r)) (by unfold intCells; rw [List.length_map, Lx.nums_len]; omega) o8, ownsRow_pop (size := 1) (xs := boolCells (Lx.elses r)) (by unfold boolCells; rw [List.length_map, Lx.elses_len]; omega) o9, hd⟩
end Go.Proofs.YtjnafjgonoficaaGreatDoor
