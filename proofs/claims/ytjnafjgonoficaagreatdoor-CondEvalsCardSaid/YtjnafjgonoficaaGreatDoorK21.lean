/-
  The evaluator, plainly: more fuel changes nothing, and there is fuel enough for every list of words; what is left is never longer. No program in sight. Conditions: none.
  The reference's expression reader: its state in memory; whether a sign comes, and taking it. Conditions: the reader's block is its own; the words lie in memory.
  The reference's operators. Conditions: the numbers are int64's.
  The reference's signs with one side. Conditions: the reader's block is its own; what operands come to is known.
-/
import Derived.Test.YtjnafjgonoficaaGreatDoorK14
namespace Go.Proofs.YtjnafjgonoficaaGreatDoor
open Go.RowKit Go.Proofs.YtjnafjgonoficaaGreatDoorW.PrintWords
set_option linter.unusedVariables false
set_option linter.unusedSimpArgs false
namespace Lx
theorem fuel_more (num val : ByteArray → Int × Bool) : ∀ m : Nat,
    (∀ lv S q, binF num val m lv S = some q → binF num val (m + 1) lv S = some q) ∧ (∀ lv v S q, loopF num val m lv v S = some q → loopF num val (m + 1) lv v S = some q) ∧
    (∀ S q, oneF num val m S = some q → oneF num val (m + 1) S = some q) ∧ (∀ S q, operF num val m S = some q → operF num val (m + 1) S = some q) := by
  intro m
  induction m with
  | zero =>
    refine ⟨fun lv S q h => ?_, fun lv v S q h => ?_, fun S q h => ?_, fun S q h => ?_⟩
    · unfold binF at h; cases h
    · unfold loopF at h; cases h
    · unfold oneF at h; cases h
    · unfold operF at h; cases h
  | succ m ih =>
    obtain ⟨i1, i2, i3, i4⟩ := ih
    refine ⟨fun lv S q h => ?_, fun lv v S q h => ?_, fun S q h => ?_, fun S q h => ?_⟩
    · unfold binF at h ⊢
      split
      · rename_i e
        rw [if_pos e] at h
        exact i3 S q h
      · rename_i e
        rw [if_neg e] at h
        cases hb : binF num val m (lv + 1) S with
        | none => rw [hb] at h; cases h
        | some p =>
          rw [hb] at h
          rw [i1 _ _ _ hb]
          exact i2 _ _ _ _ h
    · unfold loopF at h ⊢
      split
      · rename_i e
        rw [if_pos e] at h
        exact h
      · rename_i e
        rw [if_neg e] at h
        cases hf : findOp lv S with
        | none => rw [hf] at h; exact h
        | some j =>
          rw [hf] at h
          dsimp only at h ⊢
          cases hb : binF num val m (lv + 1) S.tl with
          | none => rw [hb] at h; cases h
          | some p =>
            rw [hb] at h
            rw [i1 _ _ _ hb]
            exact i2 _ _ _ _ h
    · unfold oneF at h ⊢
      cases hb : operF num val m ⟨afterSigns S.l, S.bad⟩ with
      | none => rw [hb] at h; cases h
      | some p =>
        rw [hb] at h
        rw [i4 _ _ hb]
        exact h
    · unfold operF at h ⊢
      split
      · rename_i e
        rw [if_pos e] at h
        exact h
      · rename_i e
        rw [if_neg e] at h
        cases hl : S.l with
        | nil => rw [hl] at h; exact h
        | cons t r =>
          rw [hl] at h
          dsimp only at h ⊢
          split
          · rename_i e2
            rw [if_pos e2] at h
            cases hb : binF num val m 1 S.tl with
            | none => rw [hb] at h; cases h
            | some p =>
              rw [hb] at h
              rw [i1 _ _ _ hb]
              exact h
          · rename_i e2
            rw [if_neg e2] at h
            exact h
theorem bin_fuel {num val : ByteArray → Int × Bool} {m m' lv : Nat} {S : ES} {q : Int × ES} (h : binF num val m lv S = some q) (hm : m ≤ m') : binF num val m' lv S = some q := by
  obtain ⟨d, rfl⟩ := Nat.le.dest hm
  clear hm
  induction d with
  | zero => exact h
  | succ d ih => exact (fuel_more num val (m + d)).1 _ _ _ ih
theorem loop_fuel {num val : ByteArray → Int × Bool} {m m' lv : Nat} {v : Int} {S : ES} {q : Int × ES} (h : loopF num val m lv v S = some q) (hm : m ≤ m') : loopF num val m' lv v S = some q := by
  obtain ⟨d, rfl⟩ := Nat.le.dest hm
  clear hm
  induction d with
  | zero => exact h
  | succ d ih => exact (fuel_more num val (m + d)).2.1 _ _ _ _ ih
theorem isS_ne {S : ES} {g : List UInt8} (h : isS S g = true) : S.l ≠ [] := by
  intro e; unfold isS at h; rw [e] at h; cases h
theorem findFrom_ne {lv : Nat} {S : ES} : ∀ {os : List (List UInt8 × Nat)} {i j : Nat}, findFrom lv S os i = some j → S.l ≠ []
  | [], i, j, h => by unfold findFrom at h; cases h
  | o :: r, i, j, h => by
    unfold findFrom at h
    split at h
    · rename_i e
      rw [Bool.and_eq_true] at e
      exact isS_ne e.2
    · exact findFrom_ne h
theorem tl_lt {S : ES} (h : S.l ≠ []) : S.tl.l.length < S.l.length := by
  unfold ES.tl
  cases hl : S.l with
  | nil => exact absurd hl h
  | cons t r => simp
theorem tl_le (S : ES) : S.tl.l.length ≤ S.l.length := by
  unfold ES.tl
  cases S.l <;> simp
theorem after_le (l : List Tok) : (afterSigns l).length ≤ l.length := by
  unfold afterSigns
  exact (List.dropWhile_sublist _).length_le
theorem defined_le (val : ByteArray → Int × Bool) (S : ES) : (definedE val S).2.l.length ≤ S.l.length := by
  have hT : (if isS S [40] = true then S.tl else S).l.length ≤ S.l.length := by
    split
    · exact tl_le S
    · exact Nat.le_refl _
  unfold definedE
  obtain ⟨U, hU⟩ : ∃ U, (if isS S [40] = true then S.tl else S) = U := ⟨_, rfl⟩
  rw [hU] at hT ⊢
  dsimp only
  cases hl : U.l with
  | nil => show U.l.length ≤ _; exact hT
  | cons t r =>
    rw [hl] at hT
    simp only [List.length_cons] at hT
    dsimp only
    split
    · split
      · dsimp only; omega
      · dsimp only
        split
        · dsimp only; rw [List.length_tail]; omega
        · dsimp only; omega
    · show U.l.length ≤ _
      rw [hl]; simpa using hT
/-- There is fuel enough, and what is left is not longer. -/
theorem fuel_some (num val : ByteArray → Int × Bool) : ∀ n : Nat, (∀ (d lv : Nat) (S : ES), d + lv = 7 → S.l.length ≤ n → ∃ m q, binF num val m lv S = some q ∧ q.2.l.length ≤ S.l.length) := by
  intro n
  induction n using Nat.strongRecOn with
  | ind n ih =>
    -- an operand
    have hoper : ∀ S : ES, S.l.length ≤ n → ∃ m q, operF num val m S = some q ∧ q.2.l.length ≤ S.l.length := by
      intro S hS
      by_cases hb : S.bad = true
      · exact ⟨1, _, by unfold operF; rw [if_pos hb], Nat.le_refl _⟩
      · cases hl : S.l with
        | nil => exact ⟨1, (0, S.fail), by unfold operF; rw [if_neg hb, hl], by show S.l.length ≤ _; rw [hl]; exact Nat.le_refl _⟩
        | cons t r =>
          have hlt : S.tl.l.length < S.l.length := tl_lt (by rw [hl]; simp)
          have hlr : S.l.length = r.length + 1 := by rw [hl]; rfl
          by_cases hp : isS S [40] = true
          · obtain ⟨m, q, h1, h2⟩ := ih (S.tl.l.length) (by omega) 6 1 S.tl rfl (Nat.le_refl _)
            obtain ⟨v, T⟩ := q
            by_cases hc : isS T [41] = true
            · refine ⟨m + 1, (v, T.tl), by unfold operF; rw [if_neg hb, hl]; dsimp only; rw [if_pos hp, h1]; dsimp only; rw [if_pos hc], ?_⟩
              have := tl_le T
              simp only [List.length_cons]
              dsimp only at h2 ⊢
              omega
            · refine ⟨m + 1, (0, T.fail), by unfold operF; rw [if_neg hb, hl]; dsimp only; rw [if_pos hp, h1]; dsimp only; rw [if_neg hc], ?_⟩
              show T.l.length ≤ _
              simp only [List.length_cons]
              dsimp only at h2
              omega
          · have h9 : S.tl.l.length ≤ (t :: r).length := by simp only [List.length_cons]; omega
            by_cases h3 : t.k = 3
            · by_cases hn : (num t.t).2 = true
              · exact ⟨1, ((num t.t).1, S.tl), by unfold operF; rw [if_neg hb, hl]; dsimp only; rw [if_neg hp, if_pos h3, if_pos hn], h9⟩
              · exact ⟨1, (0, S.tl.fail), by unfold operF; rw [if_neg hb, hl]; dsimp only; rw [if_neg hp, if_pos h3, if_neg hn], h9⟩
            · by_cases hd : (t.t.toList == [100, 101, 102, 105, 110, 101, 100]) = true
              · exact ⟨1, definedE val S.tl, by unfold operF; rw [if_neg hb, hl]; dsimp only; rw [if_neg hp, if_neg h3, if_pos hd], Nat.le_trans (defined_le val S.tl) h9⟩
              · by_cases h1 : t.k = 1
                · exact ⟨1, ((val t.t).1, S.tl), by unfold operF; rw [if_neg hb, hl]; dsimp only; rw [if_neg hp, if_neg h3, if_neg hd, if_pos h1], h9⟩
                · exact ⟨1, (0, S.tl.fail), by unfold operF; rw [if_neg hb, hl]; dsimp only; rw [if_neg hp, if_neg h3, if_neg hd, if_neg h1], h9⟩
    intro d
    induction d with
    | zero =>
      intro lv S hlv hS
      obtain rfl : lv = 7 := by omega
      obtain ⟨m, q, h1, h2⟩ := hoper ⟨afterSigns S.l, S.bad⟩ (Nat.le_trans (after_le S.l) hS)
      obtain ⟨v, T⟩ := q
      refine ⟨m + 2, (signed (signsOf S.l) v, T), ?_, Nat.le_trans h2 (after_le S.l)⟩
      unfold binF
      rw [if_pos rfl]
      unfold oneF
      rw [h1]
    | succ d ihd =>
      intro lv S hlv hS
      have hloop : ∀ k : Nat, k ≤ n → ∀ (S' : ES) (v : Int), S'.l.length ≤ k → ∃ m q, loopF num val m lv v S' = some q ∧ q.2.l.length ≤ S'.l.length := by
        intro k
        induction k with
        | zero =>
          intro hk S' v hS'
          refine ⟨1, (v, S'), ?_, Nat.le_refl _⟩
          unfold loopF
          split
          · rfl
          · cases hf : findOp lv S' with
            | none => rfl
            | some j =>
              have := findFrom_ne hf
              exact absurd (List.eq_nil_of_length_eq_zero (by omega)) this
        | succ k ihk =>
          intro hk S' v hS'
          by_cases hb : S'.bad = true
          · exact ⟨1, (v, S'), by unfold loopF; rw [if_pos hb], Nat.le_refl _⟩
          · cases hf : findOp lv S' with
            | none => exact ⟨1, (v, S'), by unfold loopF; rw [if_neg hb, hf], Nat.le_refl _⟩
            | some j =>
              have hlt := tl_lt (findFrom_ne hf)
              obtain ⟨m1, q1, e1, e2⟩ := ihd (lv + 1) S'.tl (by omega) (by omega)
              obtain ⟨u, T⟩ := q1
              dsimp only at e2
              obtain ⟨m2, q2, e3, e4⟩ := ihk (by omega) T (opDo j v u) (by omega)
              refine ⟨(m1 + m2) + 1, q2, ?_, by omega⟩
              unfold loopF
              rw [if_neg hb, hf]
              dsimp only
              rw [bin_fuel e1 (Nat.le_add_right _ _)]
              exact loop_fuel e3 (Nat.le_add_left _ _)
      obtain ⟨m1, q1, e1, e2⟩ := ihd (lv + 1) S (by omega) hS
      obtain ⟨v, T⟩ := q1
      dsimp only at e2
      obtain ⟨m2, q2, e3, e4⟩ := hloop n (Nat.le_refl _) T v (by omega)
      refine ⟨(m1 + m2) + 1, q2, ?_, by omega⟩
      unfold binF
      rw [if_neg (by omega), bin_fuel e1 (Nat.le_add_right _ _)]
      exact loop_fuel e3 (Nat.le_add_left _ _)
theorem eval_some (num val : ByteArray → Int × Bool) (l : List Tok) : ∃ m R, evalF num val m l = some R := by
  obtain ⟨m, q, h1, -⟩ := fuel_some num val l.length 6 1 ⟨l, false⟩ rfl (Nat.le_refl _)
  obtain ⟨v, T⟩ := q
  refine ⟨m, if (T.bad || !T.l.isEmpty) = true then (0, false) else (v, true), ?_⟩
  unfold evalF
  rw [h1]
  dsimp only
  split <;> rfl
end Lx
end Go.Proofs.YtjnafjgonoficaaGreatDoor
namespace Go.Proofs.YtjnafjgonoficaaGreatDoor
open Go.RowKit Go.Proofs.YtjnafjgonoficaaGreatDoorW.PrintWords
set_option linter.unusedVariables false
set_option linter.unusedSimpArgs false
/-- The reader's state: the words that are left, and whether something was not as said. -/
def RC (w0 w : World) (A : Option Addr) (n c : Nat) (dv : Value) (L : List Lx.Tok) (S : Lx.ES) : Prop := Tks w0 (.slice A n c) L ∧ ∃ i : Nat, i ≤ n ∧ S.l = L.drop i ∧ w.heap[w0.heap.size]? = some (.cells #[.slice A n c, .int .i64 i, .bool S.bad, dv] 124 (0, 0)) ∧ Below w0.heap.size w0 w
theorem RC.grown {w0 w w' : World} {A : Option Addr} {n c : Nat} {dv : Value} {L : List Lx.Tok} {S : Lx.ES} (h : RC w0 w A n c dv L S) (hg : w.grownBy w' none) : RC w0 w' A n c dv L S := by
  obtain ⟨h0, i, h1, h2, h3, h4⟩ := h
  exact ⟨h0, i, h1, h2, (hg.block _ (blk_lt h3) (by simp)).trans h3, h4.grown hg (by have := blk_lt h3; omega) (fun k hk => by cases hk)⟩
theorem RC.len {w0 w : World} {A : Option Addr} {n c : Nat} {dv : Value} {L : List Lx.Tok} {S : Lx.ES} (h : RC w0 w A n c dv L S) : L.length = n := by
  obtain ⟨⟨A', c', e, -⟩, -⟩ := h
  simp only [Value.slice.injEq] at e
  exact e.2.1.symm
/-- The word that comes. -/
theorem RC.at {w0 w : World} {A : Option Addr} {n c : Nat} {dv : Value} {L : List Lx.Tok} {S : Lx.ES} {t : Lx.Tok} {r : List Lx.Tok} (h : RC w0 w A n c dv L S) (hl : S.l = t :: r) :
    ∃ (g o i : Nat), A = some ⟨g, o, none⟩ ∧ i < n ∧ S.l = L.drop i ∧ r = L.drop (i + 1) ∧ w.heap[w0.heap.size]? = some (.cells #[.slice A n c, .int .i64 i, .bool S.bad, dv] 124 (0, 0)) ∧ Below w0.heap.size w0 w ∧ g < w0.heap.size ∧
      w.cell? ⟨g, o + i * 4, none⟩ = some (.int .i64 t.k) ∧ w.cell? ⟨g, o + i * 4 + 1, none⟩ = some (.string t.b) ∧ w.cell? ⟨g, o + i * 4 + 2, none⟩ = some (.string t.t) ∧ w.cell? ⟨g, o + i * 4 + 3, none⟩ = some (.int .i64 t.a) := by
  have hn := h.len
  obtain ⟨⟨A', c', e, h1, h2, hor⟩, i, hi, hd, hb, hw⟩ := h
  simp only [Value.slice.injEq] at e
  obtain ⟨rfl, -, rfl⟩ := e
  have hd0 := hd
  rw [hd] at hl
  have hil : i < L.length := by
    rcases Nat.lt_or_ge i L.length with h | h
    · exact h
    · rw [List.drop_eq_nil_of_le h] at hl; cases hl
  rw [List.drop_eq_getElem_cons hil] at hl
  simp only [List.cons.injEq] at hl
  obtain ⟨ht, hr⟩ := hl
  have hti : L[i]? = some t := by rw [List.getElem?_eq_getElem hil, ht]
  obtain ⟨g, o, rfl, hat, hgl⟩ := hor.resolve_left (fun e => by rw [e] at hil; simp at hil)
  obtain ⟨a0, a1, a2, a3⟩ := hat i t hti
  exact ⟨g, o, i, rfl, by omega, hd0, hr.symm, hb, hw, hgl, (hw.cell hgl).trans a0, (hw.cell hgl).trans a1, (hw.cell hgl).trans a2, (hw.cell hgl).trans a3⟩
namespace Lx
def isR (S : ES) (g : List UInt8) : Bool := !S.bad && isS S g
end Lx
set_option maxRecDepth 100000 in
set_option maxHeartbeats 4000000 in
theorem isr_calls (w0 w : World) (A : Option Addr) (n c : Nat) (dv : Value) (L : List Lx.Tok) (S : Lx.ES) (gs : List UInt8) (gb : ByteArray) (hgb : gb.toList = gs) (hn5 : n ≤ 100000) (h : RC w0 w A n c dv L S) :
    Calls Tryz.prog 143 #[.pointer (some ⟨w0.heap.size, 0, none⟩), .string gb] w fun e w' => e = .returned (.bool (Lx.isR S gs)) ∧ w.grownBy w' none := by
  obtain ⟨x, hx⟩ : ∃ x, w0.heap.size = x := ⟨_, rfl⟩
  have HR := Aside0.mk h
  have hnl := h.len
  unfold Lx.isR
  obtain ⟨l, bad⟩ := S
  cases bad
  · cases hl : l with
    | nil =>
      have hs : Lx.isS ⟨[], false⟩ gs = false := rfl
      rw [hs]
      subst hl
      obtain ⟨-, i, hi, hd, hb, hw⟩ := h
      have hin : i = n := by
        dsimp only at hd
        have := congrArg List.length hd
        simp at this
        omega
      subst hin
      rw [hx] at hb ⊢
      have hxl := blk_lt hb
      have y0 : w.cell? ⟨x, 0, none⟩ = some (.slice A i c) := by rw [blk_cell hb]; rfl
      have y1 : w.cell? ⟨x, 1, none⟩ = some (.int .i64 i) := by rw [blk_cell hb]; rfl
      have y2 : w.cell? ⟨x, 2, none⟩ = some (.bool false) := by rw [blk_cell hb]; rfl
      clear hb hw hd HR hs hx hnl
      go_enter Tryz.func143, Tryz.ntmps143
      go_wp2_with fail
      go_quiet (fail)
      go_wp2_with fail
      go_ret
      exact ⟨rfl, grown_drewN (World.grownBy.refl _ _) _⟩
    | cons t r =>
      subst hl
      obtain ⟨g, o, i, rfl, hi, -, hr, hb, hw, hgl, a0, a1, a2, a3⟩ := h.at rfl
      rw [hx] at hb ⊢
      have hxl := blk_lt hb
      have hgw : g < w.heap.size := Nat.lt_of_lt_of_le hgl hw.size
      have y0 : w.cell? ⟨x, 0, none⟩ = some (.slice (some ⟨g, o, none⟩) n c) := by rw [blk_cell hb]; rfl
      have y1 : w.cell? ⟨x, 1, none⟩ = some (.int .i64 i) := by rw [blk_cell hb]; rfl
      have y2 : w.cell? ⟨x, 2, none⟩ = some (.bool false) := by rw [blk_cell hb]; rfl
      have hs : Lx.isS ⟨t :: r, false⟩ gs = ((t.k == 6) && (t.t.toList == gs)) := rfl
      rw [hs]
      have hi0 : (0 : Int) ≤ (i : Int) := Int.natCast_nonneg _
      have hin : (i : Int) < (n : Int) := by omega
      obtain ⟨p, hp⟩ : ∃ p, (t.k == 6) = p := ⟨_, rfl⟩
      obtain ⟨q, hq⟩ : ∃ q, (t.t.toList == gs) = q := ⟨_, rfl⟩
      rw [hp, hq]
      clear hb hw HR hs hx hr hgl a1 a3
      cases p
      · clear hq
        go_enter Tryz.func143, Tryz.ntmps143
        go_wp2_with fail
        go_quiet (fail)
        go_wp2_with fail
        go_ret
        exact ⟨rfl, grown_drewN (World.grownBy.refl _ _) _⟩
      · go_enter Tryz.func143, Tryz.ntmps143
        go_wp2_with fail
        go_quiet (fail)
        go_wp2_with fail
        go_ret
        exact ⟨by cases q <;> rfl, grown_drewN (World.grownBy.refl _ _) _⟩
  · obtain ⟨-, i, hi, hd, hb, hw⟩ := h
    rw [hx] at hb ⊢
    have hxl := blk_lt hb
    have y2 : w.cell? ⟨x, 2, none⟩ = some (.bool true) := by rw [blk_cell hb]; rfl
    clear hb hw hd HR hx hnl
    go_enter Tryz.func143, Tryz.ntmps143
    go_wp2_with fail
    go_quiet (fail)
    go_wp2_with fail
    go_ret
    exact ⟨rfl, grown_drewN (World.grownBy.refl _ _) _⟩
/-- One word further. -/
theorem RC.step {w0 w w1 : World} {A : Option Addr} {n c : Nat} {dv : Value} {L : List Lx.Tok} {S : Lx.ES} {i : Nat} (h : RC w0 w A n c dv L S) (hi : i < n) (hd : S.l = L.drop i) (hb : w1.heap[w0.heap.size]? = some (.cells #[.slice A n c, .int .i64 (i + 1 : Nat), .bool S.bad, dv] 124 (0, 0))) (hw : Below w0.heap.size w0 w1) : RC w0 w1 A n c dv L S.tl := by
  refine ⟨h.1, i + 1, hi, ?_, hb, hw⟩
  unfold Lx.ES.tl
  dsimp only
  rw [hd, List.tail_drop]
set_option maxRecDepth 100000 in
set_option maxHeartbeats 4000000 in
theorem taker_calls (w0 w : World) (A : Option Addr) (n c : Nat) (dv : Value) (L : List Lx.Tok) (S : Lx.ES) (gs : List UInt8) (gb : ByteArray) (hgb : gb.toList = gs) (hn5 : n ≤ 100000) (h : RC w0 w A n c dv L S) :
    Calls Tryz.prog 103 #[.pointer (some ⟨w0.heap.size, 0, none⟩), .string gb] w fun e w' => e = .returned (.bool (Lx.isR S gs)) ∧ RC w0 w' A n c dv L (if Lx.isR S gs = true then S.tl else S) ∧ w.grownBy w' (some w0.heap.size) := by
  have his := isr_calls w0 w A n c dv L S gs gb hgb hn5 h
  obtain ⟨x, hx⟩ : ∃ x, w0.heap.size = x := ⟨_, rfl⟩
  rw [hx] at his ⊢
  cases hr : Lx.isR S gs
  · rw [hr] at his
    have HIS := Aside0.mk his
    have HR := Aside0.mk h
    clear his h hr hgb
    go_enter Tryz.func103, Tryz.ntmps103
    go_wp2_with (first | (go_at_call 143; (with_reducible refine HIS.out.mono ?_); rintro e w1 ⟨rfl, hg⟩; have HG := Aside0.mk hg; clear hg))
    go_ret
    exact ⟨rfl, HR.out.grown HG.out, grown_any HG.out⟩
  · rw [hr] at his
    have hne : S.l ≠ [] := by
      unfold Lx.isR at hr
      rw [Bool.and_eq_true] at hr
      exact Lx.isS_ne hr.2
    obtain ⟨t, r, hl⟩ := List.exists_cons_of_ne_nil hne
    obtain ⟨g, o, i, rfl, hi, hd, hrd, hb, hw, hgl, a0, a1, a2, a3⟩ := h.at hl
    rw [hx] at hb
    have HIS := Aside0.mk his
    have HR := Aside0.mk h
    have HB := Aside0.mk hb
    have HD := Aside0.mk hd
    have HW := Aside0.mk hw
    have hw1 : IntKind.i64.wrap ((i : Int) + 1) = (i : Int) + 1 := IntWalk.i64_in _ (by omega)
    clear his h hr hgb hne hl hrd hb hw hgl a0 a1 a2 a3 hd
    go_enter Tryz.func103, Tryz.ntmps103
    go_wp2_with (first | (go_at_call 143; (with_reducible refine HIS.out.mono ?_); rintro e w1 ⟨rfl, hg⟩; have hb1 := (hg.block x (blk_lt HB.out) (by simp)).trans HB.out; have y1 : w1.cell? ⟨x, 1, none⟩ = some (.int .i64 i) := (by rw [blk_cell hb1]; rfl); have yf := blk_frozen hb1 1; have hxl := blk_lt hb1; have HB1 := Aside0.mk hb1; have HG := Aside0.mk hg; clear hg hb1))
    go_ret
    have hb2 := blk_set HB1.out 1 (.int .i64 ((i : Int) + 1))
    refine ⟨rfl, HR.out.step hi HD.out (by rw [hx]; exact hb2) ?_, grown_trans (grown_any HG.out) (grown_set (World.grownBy.refl _ _) _ _)⟩
    rw [hx] at HW ⊢
    exact (HW.out.grown HG.out (by have := blk_lt HB.out; omega) (fun k hk => by cases hk)).setCell (p := ⟨x, 1, none⟩) (Nat.le_refl _) _
end Go.Proofs.YtjnafjgonoficaaGreatDoor
namespace Go.Proofs.YtjnafjgonoficaaGreatDoor
open Go.RowKit Go.Proofs.YtjnafjgonoficaaGreatDoorW.PrintWords
set_option linter.unusedVariables false
set_option linter.unusedSimpArgs false
def InI (a : Int) : Prop := -9223372036854775808 ≤ a ∧ a ≤ 9223372036854775807
theorem wrap64_inI {a : Int} (h : InI a) : wrap64 a = a := IntWalk.wrap64_in a h
theorem oner_calls (b : Bool) (w : World) : Calls Tryz.prog 141 #[.bool b] w fun e w' => e = .returned (.int .i64 (Lx.bit b)) ∧ w = w' := by
  cases b
  all_goals
    go_enter Tryz.func141, Tryz.ntmps141
    go_wp2_with fail
    go_ret
    exact ⟨rfl, rfl⟩
set_option maxRecDepth 100000 in
theorem comp_or (a b : Int) (w : World) : Calls Tryz.prog 104 #[.string ⟨#[124, 124]⟩, .int .i64 a, .int .i64 b] w fun e w' => e = .returned (.int .i64 (Lx.opDo 0 a b)) ∧ w = w' := by
  show Calls _ _ _ _ fun e w' => e = .returned (.int .i64 (Lx.bit (a != 0 || b != 0))) ∧ w = w'
  obtain ⟨p, hp⟩ : ∃ p, (a != 0) = p := ⟨_, rfl⟩
  obtain ⟨q, hq⟩ : ∃ q, (b != 0) = q := ⟨_, rfl⟩
  rw [hp, hq]
  cases p <;> cases q
  all_goals
    go_enter Tryz.func104, Tryz.ntmps104
    go_wp2_with (go_at_call 141; (refine (oner_calls _ _).mono ?_); rintro e w' ⟨rfl, rfl⟩)
    go_ret
    exact ⟨rfl, rfl⟩
set_option maxRecDepth 100000 in
theorem comp_and (a b : Int) (w : World) : Calls Tryz.prog 104 #[.string ⟨#[38, 38]⟩, .int .i64 a, .int .i64 b] w fun e w' => e = .returned (.int .i64 (Lx.opDo 1 a b)) ∧ w = w' := by
  show Calls _ _ _ _ fun e w' => e = .returned (.int .i64 (Lx.bit (a != 0 && b != 0))) ∧ w = w'
  obtain ⟨p, hp⟩ : ∃ p, (a != 0) = p := ⟨_, rfl⟩
  obtain ⟨q, hq⟩ : ∃ q, (b != 0) = q := ⟨_, rfl⟩
  rw [hp, hq]
  cases p <;> cases q
  all_goals
    go_enter Tryz.func104, Tryz.ntmps104
    go_wp2_with (go_at_call 141; (refine (oner_calls _ _).mono ?_); rintro e w' ⟨rfl, rfl⟩)
    go_ret
    exact ⟨rfl, rfl⟩
set_option maxRecDepth 100000 in
theorem comp_eq (a b : Int) (w : World) : Calls Tryz.prog 104 #[.string ⟨#[61, 61]⟩, .int .i64 a, .int .i64 b] w fun e w' => e = .returned (.int .i64 (Lx.opDo 2 a b)) ∧ w = w' := by
  show Calls _ _ _ _ fun e w' => e = .returned (.int .i64 (Lx.bit (a == b))) ∧ w = w'
  obtain ⟨p, hp⟩ : ∃ p, (a == b) = p := ⟨_, rfl⟩
  rw [hp]
  all_goals
    go_enter Tryz.func104, Tryz.ntmps104
    go_wp2_with (go_at_call 141; (refine (oner_calls _ _).mono ?_); rintro e w' ⟨rfl, rfl⟩)
    go_ret
    exact ⟨rfl, rfl⟩
set_option maxRecDepth 100000 in
theorem comp_ne (a b : Int) (w : World) : Calls Tryz.prog 104 #[.string ⟨#[33, 61]⟩, .int .i64 a, .int .i64 b] w fun e w' => e = .returned (.int .i64 (Lx.opDo 3 a b)) ∧ w = w' := by
  show Calls _ _ _ _ fun e w' => e = .returned (.int .i64 (Lx.bit (a != b))) ∧ w = w'
  obtain ⟨p, hp⟩ : ∃ p, (a != b) = p := ⟨_, rfl⟩
  rw [hp]
  all_goals
    go_enter Tryz.func104, Tryz.ntmps104
    go_wp2_with (go_at_call 141; (refine (oner_calls _ _).mono ?_); rintro e w' ⟨rfl, rfl⟩)
    go_ret
    exact ⟨rfl, rfl⟩
set_option maxRecDepth 100000 in
theorem comp_lt (a b : Int) (w : World) : Calls Tryz.prog 104 #[.string ⟨#[60]⟩, .int .i64 a, .int .i64 b] w fun e w' => e = .returned (.int .i64 (Lx.opDo 4 a b)) ∧ w = w' := by
  show Calls _ _ _ _ fun e w' => e = .returned (.int .i64 (Lx.bit (decide (a < b)))) ∧ w = w'
  obtain ⟨p, hp⟩ : ∃ p, decide (a < b) = p := ⟨_, rfl⟩
  rw [hp]
  all_goals
    go_enter Tryz.func104, Tryz.ntmps104
    go_wp2_with (go_at_call 141; (refine (oner_calls _ _).mono ?_); rintro e w' ⟨rfl, rfl⟩)
    go_ret
    exact ⟨rfl, rfl⟩
set_option maxRecDepth 100000 in
theorem comp_le (a b : Int) (w : World) : Calls Tryz.prog 104 #[.string ⟨#[60, 61]⟩, .int .i64 a, .int .i64 b] w fun e w' => e = .returned (.int .i64 (Lx.opDo 5 a b)) ∧ w = w' := by
  show Calls _ _ _ _ fun e w' => e = .returned (.int .i64 (Lx.bit (decide (a ≤ b)))) ∧ w = w'
  obtain ⟨p, hp⟩ : ∃ p, decide (a ≤ b) = p := ⟨_, rfl⟩
  rw [hp]
  all_goals
    go_enter Tryz.func104, Tryz.ntmps104
    go_wp2_with (go_at_call 141; (refine (oner_calls _ _).mono ?_); rintro e w' ⟨rfl, rfl⟩)
    go_ret
    exact ⟨rfl, rfl⟩
set_option maxRecDepth 100000 in
theorem comp_gt (a b : Int) (w : World) : Calls Tryz.prog 104 #[.string ⟨#[62]⟩, .int .i64 a, .int .i64 b] w fun e w' => e = .returned (.int .i64 (Lx.opDo 6 a b)) ∧ w = w' := by
  show Calls _ _ _ _ fun e w' => e = .returned (.int .i64 (Lx.bit (decide (b < a)))) ∧ w = w'
  obtain ⟨p, hp⟩ : ∃ p, decide (b < a) = p := ⟨_, rfl⟩
  rw [hp]
  all_goals
    go_enter Tryz.func104, Tryz.ntmps104
    go_wp2_with (go_at_call 141; (refine (oner_calls _ _).mono ?_); rintro e w' ⟨rfl, rfl⟩)
    go_ret
    exact ⟨rfl, rfl⟩
set_option maxRecDepth 100000 in
theorem comp_ge (a b : Int) (w : World) : Calls Tryz.prog 104 #[.string ⟨#[62, 61]⟩, .int .i64 a, .int .i64 b] w fun e w' => e = .returned (.int .i64 (Lx.opDo 7 a b)) ∧ w = w' := by
  show Calls _ _ _ _ fun e w' => e = .returned (.int .i64 (Lx.bit (decide (b ≤ a)))) ∧ w = w'
  obtain ⟨p, hp⟩ : ∃ p, decide (b ≤ a) = p := ⟨_, rfl⟩
  rw [hp]
  all_goals
    go_enter Tryz.func104, Tryz.ntmps104
    go_wp2_with (go_at_call 141; (refine (oner_calls _ _).mono ?_); rintro e w' ⟨rfl, rfl⟩)
    go_ret
    exact ⟨rfl, rfl⟩
set_option maxRecDepth 100000 in
theorem comp_add (a b : Int) (w : World) : Calls Tryz.prog 104 #[.string ⟨#[43]⟩, .int .i64 a, .int .i64 b] w fun e w' => e = .returned (.int .i64 (Lx.opDo 8 a b)) ∧ w = w' := by
  show Calls _ _ _ _ fun e w' => e = .returned (.int .i64 (wrap64 (a + b))) ∧ w = w'
  all_goals
    go_enter Tryz.func104, Tryz.ntmps104
    go_wp2_with fail
    go_ret
    exact ⟨rfl, rfl⟩
set_option maxRecDepth 100000 in
theorem comp_sub (a b : Int) (w : World) : Calls Tryz.prog 104 #[.string ⟨#[45]⟩, .int .i64 a, .int .i64 b] w fun e w' => e = .returned (.int .i64 (Lx.opDo 9 a b)) ∧ w = w' := by
  show Calls _ _ _ _ fun e w' => e = .returned (.int .i64 (wrap64 (a - b))) ∧ w = w'
  all_goals
    go_enter Tryz.func104, Tryz.ntmps104
    go_wp2_with fail
    go_ret
    exact ⟨rfl, rfl⟩
set_option maxRecDepth 100000 in
theorem comp_mul (a b : Int) (w : World) : Calls Tryz.prog 104 #[.string ⟨#[42]⟩, .int .i64 a, .int .i64 b] w fun e w' => e = .returned (.int .i64 (Lx.opDo 10 a b)) ∧ w = w' := by
  show Calls _ _ _ _ fun e w' => e = .returned (.int .i64 (wrap64 (a * b))) ∧ w = w'
  all_goals
    go_enter Tryz.func104, Tryz.ntmps104
    go_wp2_with fail
    go_ret
    exact ⟨rfl, rfl⟩
theorem tmod_sign (a b : Int) : (0 ≤ a → 0 ≤ a.tmod b) ∧ (a ≤ 0 → a.tmod b ≤ 0) ∧ (a.tmod b).natAbs ≤ a.natAbs := by
  refine ⟨fun h => Int.tmod_nonneg b h, fun h => ?_, ?_⟩
  · have := Int.tmod_nonneg b (show 0 ≤ -a by omega)
    rw [Int.neg_tmod] at this
    omega
  · rw [Int.natAbs_tmod]
    exact Nat.mod_le _ _
theorem rem_law (a b : Int) (ha : InI a) (h0 : b ≠ 0) (h1 : b ≠ -1) : Lx.opDo 12 a b = a.tmod b := by
  show Lx.w64 (Lx.w64 (a - Lx.w64 (Lx.quo a b * b)) - Lx.w64 (a * Lx.bit (b == 0))) = _
  have hb : (b == 0) = false := beq_eq_false_iff_ne.mpr h0
  rw [hb, show Lx.bit false = 0 from rfl, Int.mul_zero]
  unfold Lx.quo
  rw [if_neg h0]
  obtain ⟨s1, s2, s3⟩ := tmod_sign a b
  have hd := Int.mul_tdiv_add_tmod a b
  have hq : (a.tdiv b).natAbs = a.natAbs / b.natAbs := Int.natAbs_tdiv a b
  have hqr : InI (a.tdiv b) := by
    unfold InI at ha ⊢
    by_cases hb1 : b = 1
    · subst hb1
      rw [Int.tdiv_one]; exact ha
    · have h2 : 2 ≤ b.natAbs := by omega
      have h3 : a.natAbs / b.natAbs ≤ a.natAbs / 2 := Nat.div_le_div_left h2 (by decide)
      omega
  unfold Lx.w64
  rw [wrap64_inI hqr]
  obtain ⟨r, hr⟩ : ∃ r, a.tmod b = r := ⟨_, rfl⟩
  rw [hr] at s1 s2 s3 hd ⊢
  have hp : a.tdiv b * b = a - r := by rw [Int.mul_comm]; omega
  rw [hp]
  unfold InI at ha
  have e1 : wrap64 (a - r) = a - r := wrap64_inI ⟨by omega, by omega⟩
  rw [e1]
  have e2 : wrap64 (a - (a - r)) = r := by rw [show a - (a - r) = r by omega]; exact wrap64_inI ⟨by omega, by omega⟩
  rw [e2, show wrap64 0 = 0 by unfold wrap64; omega, Int.sub_zero]
  exact wrap64_inI ⟨by omega, by omega⟩
theorem rem_zero (a : Int) (ha : InI a) : Lx.opDo 12 a 0 = 0 := by
  show Lx.w64 (Lx.w64 (a - Lx.w64 (Lx.quo a 0 * 0)) - Lx.w64 (a * Lx.bit ((0 : Int) == 0))) = _
  rw [show Lx.bit ((0 : Int) == 0) = 1 from rfl, Int.mul_one, Int.mul_zero]
  unfold Lx.w64
  rw [show wrap64 0 = 0 by unfold wrap64; omega, Int.sub_zero, Int.sub_self]
  unfold wrap64; omega
theorem rem_neg (a : Int) (ha : InI a) : Lx.opDo 12 a (-1) = 0 := by
  show Lx.w64 (Lx.w64 (a - Lx.w64 (Lx.quo a (-1) * (-1))) - Lx.w64 (a * Lx.bit ((-1 : Int) == 0))) = _
  rw [show Lx.bit ((-1 : Int) == 0) = 0 from rfl, Int.mul_zero]
  unfold Lx.quo Lx.w64
  rw [if_neg (by decide), Int.tdiv_neg, Int.tdiv_one, show wrap64 0 = 0 by unfold wrap64; omega, Int.sub_zero]
  unfold InI at ha
  unfold wrap64
  omega
theorem quo_neg (a : Int) : Lx.opDo 11 a (-1) = wrap64 (-a) := by
  show Lx.quo a (-1) = _
  unfold Lx.quo Lx.w64
  rw [if_neg (by decide), Int.tdiv_neg, Int.tdiv_one]
set_option maxRecDepth 100000 in
theorem comp_quo (a b : Int) (w : World) : Calls Tryz.prog 104 #[.string ⟨#[47]⟩, .int .i64 a, .int .i64 b] w fun e w' => e = .returned (.int .i64 (Lx.opDo 11 a b)) ∧ w = w' := by
  by_cases h0 : b = 0
  · subst h0
    rw [show Lx.opDo 11 a 0 = 0 from rfl]
    go_enter Tryz.func104, Tryz.ntmps104
    go_wp2_with fail
    go_ret
    exact ⟨rfl, rfl⟩
  · by_cases h1 : b = -1
    · subst h1
      rw [quo_neg]
      go_enter Tryz.func104, Tryz.ntmps104
      go_wp2_with fail
      go_ret
      exact ⟨rfl, rfl⟩
    · rw [show Lx.opDo 11 a b = wrap64 (a.tdiv b) by show Lx.quo a b = _; unfold Lx.quo Lx.w64; rw [if_neg h0]]
      have e0 : (b == 0) = false := beq_eq_false_iff_ne.mpr h0
      have e1 : (b == -1) = false := beq_eq_false_iff_ne.mpr h1
      go_enter Tryz.func104, Tryz.ntmps104
      go_wp2_with fail
      go_ret
      exact ⟨rfl, rfl⟩
set_option maxRecDepth 100000 in
theorem comp_rem (a b : Int) (ha : InI a) (w : World) : Calls Tryz.prog 104 #[.string ⟨#[37]⟩, .int .i64 a, .int .i64 b] w fun e w' => e = .returned (.int .i64 (Lx.opDo 12 a b)) ∧ w = w' := by
  by_cases h0 : b = 0
  · subst h0
    rw [rem_zero a ha]
    go_enter Tryz.func104, Tryz.ntmps104
    go_wp2_with fail
    go_ret
    exact ⟨rfl, rfl⟩
  · by_cases h1 : b = -1
    · subst h1
      rw [rem_neg a ha]
      go_enter Tryz.func104, Tryz.ntmps104
      go_wp2_with fail
      go_ret
      exact ⟨rfl, rfl⟩
    · rw [rem_law a b ha h0 h1]
      have e0 : (b == 0) = false := beq_eq_false_iff_ne.mpr h0
      have e1 : (b == -1) = false := beq_eq_false_iff_ne.mpr h1
      clear ha
      go_enter Tryz.func104, Tryz.ntmps104
      go_wp2_with fail
      go_ret
      exact ⟨rfl, rfl⟩
end Go.Proofs.YtjnafjgonoficaaGreatDoor
namespace Go.Proofs.YtjnafjgonoficaaGreatDoor
open Go.RowKit Go.Proofs.YtjnafjgonoficaaGreatDoorW.PrintWords
set_option linter.unusedVariables false
set_option linter.unusedSimpArgs false
/-- Two ways that both went wrong, or agree. -/
def Same (T T' : Lx.ES) (v v' : Int) : Prop := (T.bad = true ∧ T'.bad = true) ∨ (T.bad = false ∧ T' = T ∧ v' = v)
/-- What the reference comes to. -/
def PostR (w0 : World) (A : Option Addr) (n c : Nat) (dv : Value) (L : List Lx.Tok) (w : World) (v : Int) (T : Lx.ES) : Ending → World → Prop := fun e w' =>
  ∃ (v' : Int) (T' : Lx.ES), e = .returned (.int .i64 v') ∧ RC w0 w' A n c dv L T' ∧ w.grownBy w' (some w0.heap.size) ∧ Same T T' v v'
def UnC (num val : ByteArray → Int × Bool) (w0 : World) (A : Option Addr) (n c : Nat) (dv : Value) (L : List Lx.Tok) (m : Nat) : Prop := ∀ (S T : Lx.ES) (v : Int) (w : World), Lx.oneF num val m S = some (v, T) → S.bad = false → RC w0 w A n c dv L S →
  Calls Tryz.prog 102 #[.pointer (some ⟨w0.heap.size, 0, none⟩)] w (PostR w0 A n c dv L w v T)
def PrC (num val : ByteArray → Int × Bool) (w0 : World) (A : Option Addr) (n c : Nat) (dv : Value) (L : List Lx.Tok) (m : Nat) : Prop := ∀ (S T : Lx.ES) (v : Int) (w : World), Lx.operF num val m S = some (v, T) → S.bad = false → RC w0 w A n c dv L S →
  Calls Tryz.prog 142 #[.pointer (some ⟨w0.heap.size, 0, none⟩)] w (PostR w0 A n c dv L w v T)
def LvC (num val : ByteArray → Int × Bool) (w0 : World) (A : Option Addr) (n c : Nat) (dv : Value) (L : List Lx.Tok) (m : Nat) : Prop := ∀ (k : Nat) (S T : Lx.ES) (v : Int) (w : World), k ≤ 6 → Lx.binF num val m (k + 1) S = some (v, T) → S.bad = false → RC w0 w A n c dv L S →
  Calls Tryz.prog 87 #[.pointer (some ⟨w0.heap.size, 0, none⟩), .int .i64 k] w (PostR w0 A n c dv L w v T)
set_option maxRecDepth 100000 in
set_option maxHeartbeats 4000000 in
theorem unary_step {num val : ByteArray → Int × Bool} {w0 : World} {A : Option Addr} {n c : Nat} {dv : Value} {L : List Lx.Tok} (hn5 : n ≤ 100000) (m : Nat) (IH : ∀ k, k < m → PrC num val w0 A n c dv L k) : UnC num val w0 A n c dv L m := by
  cases m with
  | zero => intro S T v w hf; unfold Lx.oneF at hf; cases hf
  | succ m =>
  have key : ∀ (d : Nat) (S T : Lx.ES) (v : Int) (w : World), S.l.length ≤ d → Lx.oneF num val (m + 1) S = some (v, T) → S.bad = false → RC w0 w A n c dv L S → Calls Tryz.prog 102 #[.pointer (some ⟨w0.heap.size, 0, none⟩)] w (PostR w0 A n c dv L w v T) := by
    intro d
    induction d using Nat.strongRecOn with
    | ind d ih =>
      intro S T v w hlen hf hb h
      have hf0 := hf
      unfold Lx.oneF at hf0
      cases ho : Lx.operF num val m ⟨Lx.afterSigns S.l, S.bad⟩ with
      | none => rw [ho] at hf0; cases hf0
      | some p =>
      obtain ⟨v1, T1⟩ := p
      rw [ho] at hf0
      simp only [Option.some.injEq, Prod.mk.injEq] at hf0
      obtain ⟨hv, rfl⟩ := hf0
      have hv := hv.symm
      cases h1 : Lx.isS S [33]
      · have hr1 := taker_calls w0 w A n c dv L S [33] ⟨#[33]⟩ (by rw [ByteArray.toList_eq]) hn5 h
        rw [show Lx.isR S [33] = false by unfold Lx.isR; rw [hb, h1]; rfl] at hr1
        have HN1 := Aside0.mk hr1
        clear hr1
        cases h2 : Lx.isS S [45]
        · have hr2 := fun W (hW : RC w0 W A n c dv L S) => taker_calls w0 W A n c dv L S [45] ⟨#[45]⟩ (by rw [ByteArray.toList_eq]) hn5 hW
          rw [show Lx.isR S [45] = false by unfold Lx.isR; rw [hb, h2]; rfl] at hr2
          have HN2 := Aside0.mk hr2
          clear hr2
          cases h3 : Lx.isS S [43]
          · have hr3 := fun W (hW : RC w0 W A n c dv L S) => taker_calls w0 W A n c dv L S [43] ⟨#[43]⟩ (by rw [ByteArray.toList_eq]) hn5 hW
            rw [show Lx.isR S [43] = false by unfold Lx.isR; rw [hb, h3]; rfl] at hr3
            have HN3 := Aside0.mk hr3
            clear hr3
            obtain ⟨q1, q2⟩ := Lx.signs_stop S.l S.bad h1 h2 h3
            rw [q2] at ho
            rw [q1] at hv
            have HV := Aside0.mk hv
            have HP := Aside0.mk (fun W (hW : RC w0 W A n c dv L S) => IH m (Nat.lt_succ_self m) S T1 v1 W ho hb hW)
            have HRC := Aside0.mk h
            clear ih hf ho hv h q1 q2 hlen hb h1 h2 h3
            go_enter Tryz.func102, Tryz.ntmps102
            go_wp2_with (first | (go_at_call 103; (with_reducible refine HN1.out.mono ?_); rintro e wa ⟨rfl, hrc, hg⟩; have hrc : RC w0 wa A n c dv L S := hrc; have HRa := Aside0.mk hrc; have HGa := Aside0.mk hg; clear hrc hg) | (go_at_call 103; (with_reducible refine (HN2.out wa HRa.out).mono ?_); rintro e wb ⟨rfl, hrc, hg⟩; have hrc : RC w0 wb A n c dv L S := hrc; have HRb := Aside0.mk hrc; have HGb := Aside0.mk (grown_trans HGa.out hg); clear hrc hg) | (go_at_call 103; (with_reducible refine (HN3.out wb HRb.out).mono ?_); rintro e wc ⟨rfl, hrc, hg⟩; have hrc : RC w0 wc A n c dv L S := hrc; have HRc := Aside0.mk hrc; have HGc := Aside0.mk (grown_trans HGb.out hg); clear hrc hg) | (go_at_call 142; (refine (HP.out wc HRc.out).mono ?_); rintro e w2 ⟨v', T', rfl, hrc, hg, hsm⟩; have HR2 := Aside0.mk hrc; have HG2 := Aside0.mk hg; have HSM := Aside0.mk hsm; clear hrc hg hsm))
            go_ret
            refine ⟨_, T', rfl, HR2.out, grown_trans HGc.out HG2.out, ?_⟩
            have hv := HV.out
            rcases HSM.out with ⟨e1, e2⟩ | ⟨e1, e2, e3⟩
            · exact .inl ⟨e1, e2⟩
            · exact .inr ⟨e1, e2, by rw [hv, e3]; rfl⟩
          · have hs := h3
            obtain ⟨t, r, hl, hsg, htt⟩ := Lx.sign_came S.l S.bad [43] (by simp) hs
            have htl : S.tl = ⟨r, S.bad⟩ := by unfold Lx.ES.tl; rw [hl]; rfl
            obtain ⟨q1, q2⟩ := Lx.signs_cons t r hsg
            have hf2 : Lx.oneF num val (m + 1) S.tl = some (Lx.signed (Lx.signsOf r) v1, T1) := by
              rw [htl]
              unfold Lx.oneF
              dsimp only
              rw [← q2, ← hl, ho]
            have hlen2 : S.tl.l.length < d := by rw [htl]; dsimp only; rw [hl] at hlen; simp only [List.length_cons] at hlen; omega
            obtain ⟨v0, hv0⟩ : ∃ v0, Lx.signed (Lx.signsOf r) v1 = v0 := ⟨_, rfl⟩
            rw [hv0] at hf2
            have hvv : v = Lx.signed1 t.t v0 := by rw [hv, hl, q1, ← hv0]; rfl
            unfold Lx.signed1 at hvv
            rw [htt] at hvv
            have HVV := Aside0.mk hvv
            have HRC := Aside0.mk h
            have ht1 := fun W (hW : RC w0 W A n c dv L S) => taker_calls w0 W A n c dv L S [43] ⟨#[43]⟩ (by rw [ByteArray.toList_eq]) hn5 hW
            have HIH := Aside0.mk (fun W (hW : RC w0 W A n c dv L S.tl) => ih _ hlen2 S.tl T1 v0 W (Nat.le_refl _) hf2 (by rw [htl]; exact hb) hW)
            rw [show Lx.isR S [43] = true by unfold Lx.isR; rw [hb, hs]; rfl] at ht1
            have HT1 := Aside0.mk ht1
            clear ht1
            clear ih hf ho hv h hl hsg htt htl q1 q2 hf2 hlen hlen2 hv0 hvv hs hb
            go_enter Tryz.func102, Tryz.ntmps102
            go_wp2_with (first | (go_at_call 103; (with_reducible refine HN1.out.mono ?_); rintro e wa ⟨rfl, hrc, hg⟩; have hrc : RC w0 wa A n c dv L S := hrc; have HRa := Aside0.mk hrc; have HGa := Aside0.mk hg; clear hrc hg) | (go_at_call 103; (with_reducible refine (HN2.out wa HRa.out).mono ?_); rintro e wb ⟨rfl, hrc, hg⟩; have hrc : RC w0 wb A n c dv L S := hrc; have HRb := Aside0.mk hrc; have HGb := Aside0.mk (grown_trans HGa.out hg); clear hrc hg) | (go_at_call 103; (with_reducible refine (HT1.out _ HRb.out).mono ?_); rintro e w1 ⟨rfl, hrc, hg⟩; have hrc : RC w0 w1 A n c dv L S.tl := hrc; have HR1 := Aside0.mk hrc; have HG1 := Aside0.mk hg; clear hrc hg) | (go_at_call 102; (refine (HIH.out w1 HR1.out).mono ?_); rintro e w2 ⟨v', T', rfl, hrc, hg, hsm⟩; have HR2 := Aside0.mk hrc; have HG2 := Aside0.mk hg; have HSM := Aside0.mk hsm; clear hrc hg hsm) | (go_at_call 141; (refine (oner_calls _ _).mono ?_); rintro e w' ⟨rfl, rfl⟩))
            go_ret
            refine ⟨_, T', rfl, HR2.out, grown_trans (grown_trans HGb.out HG1.out) HG2.out, ?_⟩
            rcases HSM.out with ⟨e1, e2⟩ | ⟨e1, e2, e3⟩
            · exact .inl ⟨e1, e2⟩
            · exact .inr ⟨e1, e2, by rw [HVV.out, e3]; rfl⟩
        · have hs := h2
          obtain ⟨t, r, hl, hsg, htt⟩ := Lx.sign_came S.l S.bad [45] (by simp) hs
          have htl : S.tl = ⟨r, S.bad⟩ := by unfold Lx.ES.tl; rw [hl]; rfl
          obtain ⟨q1, q2⟩ := Lx.signs_cons t r hsg
          have hf2 : Lx.oneF num val (m + 1) S.tl = some (Lx.signed (Lx.signsOf r) v1, T1) := by
            rw [htl]
            unfold Lx.oneF
            dsimp only
            rw [← q2, ← hl, ho]
          have hlen2 : S.tl.l.length < d := by rw [htl]; dsimp only; rw [hl] at hlen; simp only [List.length_cons] at hlen; omega
          obtain ⟨v0, hv0⟩ : ∃ v0, Lx.signed (Lx.signsOf r) v1 = v0 := ⟨_, rfl⟩
          rw [hv0] at hf2
          have hvv : v = Lx.signed1 t.t v0 := by rw [hv, hl, q1, ← hv0]; rfl
          unfold Lx.signed1 at hvv
          rw [htt] at hvv
          have HVV := Aside0.mk hvv
          have HRC := Aside0.mk h
          have ht1 := fun W (hW : RC w0 W A n c dv L S) => taker_calls w0 W A n c dv L S [45] ⟨#[45]⟩ (by rw [ByteArray.toList_eq]) hn5 hW
          have HIH := Aside0.mk (fun W (hW : RC w0 W A n c dv L S.tl) => ih _ hlen2 S.tl T1 v0 W (Nat.le_refl _) hf2 (by rw [htl]; exact hb) hW)
          rw [show Lx.isR S [45] = true by unfold Lx.isR; rw [hb, hs]; rfl] at ht1
          have HT1 := Aside0.mk ht1
          clear ht1
          clear ih hf ho hv h hl hsg htt htl q1 q2 hf2 hlen hlen2 hv0 hvv hs hb
          go_enter Tryz.func102, Tryz.ntmps102
          go_wp2_with (first | (go_at_call 103; (with_reducible refine HN1.out.mono ?_); rintro e wa ⟨rfl, hrc, hg⟩; have hrc : RC w0 wa A n c dv L S := hrc; have HRa := Aside0.mk hrc; have HGa := Aside0.mk hg; clear hrc hg) | (go_at_call 103; (with_reducible refine (HT1.out _ HRa.out).mono ?_); rintro e w1 ⟨rfl, hrc, hg⟩; have hrc : RC w0 w1 A n c dv L S.tl := hrc; have HR1 := Aside0.mk hrc; have HG1 := Aside0.mk hg; clear hrc hg) | (go_at_call 102; (refine (HIH.out w1 HR1.out).mono ?_); rintro e w2 ⟨v', T', rfl, hrc, hg, hsm⟩; have HR2 := Aside0.mk hrc; have HG2 := Aside0.mk hg; have HSM := Aside0.mk hsm; clear hrc hg hsm) | (go_at_call 141; (refine (oner_calls _ _).mono ?_); rintro e w' ⟨rfl, rfl⟩))
          go_ret
          refine ⟨_, T', rfl, HR2.out, grown_trans (grown_trans HGa.out HG1.out) HG2.out, ?_⟩
          rcases HSM.out with ⟨e1, e2⟩ | ⟨e1, e2, e3⟩
          · exact .inl ⟨e1, e2⟩
          · exact .inr ⟨e1, e2, by rw [HVV.out, e3]; rfl⟩
      · have hs := h1
        obtain ⟨t, r, hl, hsg, htt⟩ := Lx.sign_came S.l S.bad [33] (by simp) hs
        have htl : S.tl = ⟨r, S.bad⟩ := by unfold Lx.ES.tl; rw [hl]; rfl
        obtain ⟨q1, q2⟩ := Lx.signs_cons t r hsg
        have hf2 : Lx.oneF num val (m + 1) S.tl = some (Lx.signed (Lx.signsOf r) v1, T1) := by
          rw [htl]
          unfold Lx.oneF
          dsimp only
          rw [← q2, ← hl, ho]
        have hlen2 : S.tl.l.length < d := by rw [htl]; dsimp only; rw [hl] at hlen; simp only [List.length_cons] at hlen; omega
        obtain ⟨v0, hv0⟩ : ∃ v0, Lx.signed (Lx.signsOf r) v1 = v0 := ⟨_, rfl⟩
        rw [hv0] at hf2
        have hvv : v = Lx.signed1 t.t v0 := by rw [hv, hl, q1, ← hv0]; rfl
        unfold Lx.signed1 at hvv
        rw [htt] at hvv
        have HVV := Aside0.mk hvv
        have HRC := Aside0.mk h
        have ht1 := fun W (hW : RC w0 W A n c dv L S) => taker_calls w0 W A n c dv L S [33] ⟨#[33]⟩ (by rw [ByteArray.toList_eq]) hn5 hW
        have HIH := Aside0.mk (fun W (hW : RC w0 W A n c dv L S.tl) => ih _ hlen2 S.tl T1 v0 W (Nat.le_refl _) hf2 (by rw [htl]; exact hb) hW)
        rw [show Lx.isR S [33] = true by unfold Lx.isR; rw [hb, hs]; rfl] at ht1
        have HT1 := Aside0.mk ht1
        clear ht1
        clear ih hf ho hv h hl hsg htt htl q1 q2 hf2 hlen hlen2 hv0 hvv hs hb
        go_enter Tryz.func102, Tryz.ntmps102
        go_wp2_with (first |  (go_at_call 103; (with_reducible refine (HT1.out _ HRC.out).mono ?_); rintro e w1 ⟨rfl, hrc, hg⟩; have hrc : RC w0 w1 A n c dv L S.tl := hrc; have HR1 := Aside0.mk hrc; have HG1 := Aside0.mk hg; clear hrc hg) | (go_at_call 102; (refine (HIH.out w1 HR1.out).mono ?_); rintro e w2 ⟨v', T', rfl, hrc, hg, hsm⟩; have HR2 := Aside0.mk hrc; have HG2 := Aside0.mk hg; have HSM := Aside0.mk hsm; clear hrc hg hsm) | (go_at_call 141; (refine (oner_calls _ _).mono ?_); rintro e w' ⟨rfl, rfl⟩))
        go_ret
        refine ⟨_, T', rfl, HR2.out, grown_trans (HG1.out) HG2.out, ?_⟩
        rcases HSM.out with ⟨e1, e2⟩ | ⟨e1, e2, e3⟩
        · exact .inl ⟨e1, e2⟩
        · exact .inr ⟨e1, e2, by rw [HVV.out, e3]; rfl⟩
  exact fun S T v w hf hb h => key S.l.length S T v w (Nat.le_refl _) hf hb h
end Go.Proofs.YtjnafjgonoficaaGreatDoor
