/-
  Tokens behind the first byte do not depend on the first byte; the words of a directive, plainly. No program in sight. Conditions: none.
  Token slices: how they read, and that equal ones are found equal. Conditions: the tokens lie in memory.
  The words of a directive, plainly. No program in sight. Conditions: none.
  What the words of a directive come to in the program: cond.words. Conditions: the text is short; the library's variables are as their text lays them.
  What cond.words comes to. Conditions: the text is short; the library's variables are as their text lays them.
-/
import Derived.Maps.AppendAt
import Derived.Test.YtjnafjgonoficaaGreatDoorK05
namespace Go.Proofs.YtjnafjgonoficaaGreatDoor
open Go.RowKit Go.Proofs.YtjnafjgonoficaaGreatDoorW.PrintWords
set_option linter.unusedVariables false
set_option linter.unusedSimpArgs false
namespace Lx
/-- Two texts that differ at most at the first byte. -/
structure Same (u v : ByteArray) : Prop where
  size : u.size = v.size
  rest : u.data.toList.drop 1 = v.data.toList.drop 1
variable {u v : ByteArray}
theorem Same.drop (h : Same u v) (a : Nat) (ha : 1 ≤ a) : u.data.toList.drop a = v.data.toList.drop a := by
  obtain ⟨k, rfl⟩ : ∃ k, a = 1 + k := ⟨a - 1, by omega⟩
  rw [← List.drop_drop, ← List.drop_drop, h.rest]
theorem Same.B (h : Same u v) (a : Nat) (ha : 1 ≤ a) : B u a = B v a := by
  by_cases hl : a < u.size
  · obtain ⟨b, hb, -, hd⟩ := B_at u a hl
    obtain ⟨c, hc, -, he⟩ := B_at v a (by rw [← h.size]; exact hl)
    rw [h.drop a ha, he] at hd
    rw [hb, hc, List.cons.inj hd |>.1]
  · rw [B_ge (by omega), B_ge (by rw [← h.size]; omega)]
theorem Same.ext (h : Same u v) (a e : Nat) (ha : 1 ≤ a) : u.extract a e = v.extract a e := by
  apply ByteArray.ext
  apply Array.toList_inj.1
  rw [Lib.extract_data, Lib.extract_data, h.drop a ha]
theorem Same.runW (h : Same u v) (i : Nat) (hi : 1 ≤ i) : runW u i = runW v i := by
  unfold Lx.runW
  rw [← h.size, ← h.B i hi]
  split
  · split
    · exact Same.runW h (i + 1) (by omega)
    · rfl
  · rfl
  termination_by u.size - i
theorem Same.runN (h : Same u v) (i : Nat) (hi : 2 ≤ i) : runN u i = runN v i := by
  unfold Lx.runN
  rw [← h.size, ← h.B i (by omega), ← h.B (i - 1) (by omega)]
  split
  · split
    · exact Same.runN h (i + 1) (by omega)
    · rfl
  · rfl
  termination_by u.size - i
theorem Same.runQ (h : Same u v) (m : Int) (a i : Nat) (hi : 1 ≤ i) : runQ u m a i = runQ v m a i := by
  unfold Lx.runQ
  rw [← h.size, ← h.B i hi, ← h.B (i + 1) (by omega)]
  split
  · split
    · rfl
    · split
      · rfl
      · split
        · split
          · rfl
          · exact Same.runQ h m a (i + 2) (by omega)
        · exact Same.runQ h m a (i + 1) (by omega)
  · rfl
  termination_by u.size - i
theorem Same.runL (h : Same u v) (a i : Nat) (ha : 1 ≤ a) (hi : a < i) : runL u a i = runL v a i := by
  have hc : lineCut u a i = lineCut v a i := by unfold Lx.lineCut; rw [h.B (i - 1) (by omega)]
  have e0 := h.B i (by omega)
  have e1 := h.B (i - 1) (by omega)
  have h2 : (Lx.B u i = 10 ∧ ¬(Lx.B u (i - 1) = 92 ∨ a + 2 ≤ i ∧ Lx.B u (i - 1) = 13 ∧ Lx.B u (i - 2) = 92)) ↔ (Lx.B v i = 10 ∧ ¬(Lx.B v (i - 1) = 92 ∨ a + 2 ≤ i ∧ Lx.B v (i - 1) = 13 ∧ Lx.B v (i - 2) = 92)) := by
    rw [e0, e1]
    by_cases hh : a + 2 ≤ i
    · rw [h.B (i - 2) (by omega)]
    · simp [hh]
  unfold Lx.runL
  by_cases hl : i < u.size
  · rw [dif_pos hl, dif_pos (by rw [← h.size]; exact hl)]
    by_cases hb : Lx.B u i = 10 ∧ ¬(Lx.B u (i - 1) = 92 ∨ a + 2 ≤ i ∧ Lx.B u (i - 1) = 13 ∧ Lx.B u (i - 2) = 92)
    · rw [if_pos hb, if_pos (h2.1 hb), hc]
    · rw [if_neg hb, if_neg (fun hh => hb (h2.2 hh))]
      exact Same.runL h a (i + 1) ha (by omega)
  · rw [dif_neg hl, dif_neg (by rw [← h.size]; exact hl)]
  termination_by u.size - i
theorem Same.runC (h : Same u v) (i : Nat) (hi : 1 ≤ i) : runC u i = runC v i := by
  unfold Lx.runC
  rw [← h.size, ← h.B i hi, ← h.B (i + 1) (by omega)]
  split
  · split
    · rfl
    · exact Same.runC h (i + 1) (by omega)
  · rfl
  termination_by u.size - i
theorem Same.runS (h : Same u v) (i : Nat) (hi : 1 ≤ i) : runS u i = runS v i := by
  unfold Lx.runS
  rw [← h.size, ← h.B i hi]
  split
  · split
    · rfl
    · exact Same.runS h (i + 1) (by omega)
  · rfl
  termination_by u.size - i
theorem Same.commentEnd (h : Same u v) (a : Nat) (ha : 1 ≤ a) : commentEnd u a = commentEnd v a := by
  unfold Lx.commentEnd
  rw [h.B a ha, h.B (a + 1) (by omega), h.runS a ha, h.runC (a + 2) (by omega)]
theorem Same.pieceEnd (h : Same u v) (a : Nat) (ha : 1 ≤ a) : pieceEnd u a = pieceEnd v a := by
  unfold Lx.pieceEnd
  rw [h.B a ha, h.B (a + 1) (by omega), h.B (a + 2) (by omega), h.commentEnd a ha]
theorem Same.hasLf (h : Same u v) (i e : Nat) (hi : 1 ≤ i) : hasLf u i e = hasLf v i e := by
  unfold Lx.hasLf
  split
  · rw [h.B i hi, Same.hasLf h (i + 1) e (by omega)]
  · rfl
  termination_by e - i
theorem Same.firstBehind (h : Same u v) (a e : Nat) (f : Bool) (ha : 1 ≤ a) : firstBehind u a e f = firstBehind v a e f := by
  unfold Lx.firstBehind
  rw [h.B a ha, h.hasLf a e ha]
theorem Same.begins (h : Same u v) (a : Nat) (g : List UInt8) (ha : 1 ≤ a) : begins u a g = begins v a g := by
  unfold Lx.begins
  rw [h.drop a ha]
theorem Same.signOf (h : Same u v) (a : Nat) (ha : 1 ≤ a) : ∀ (l : List (List UInt8)) (n : Nat), signOf u a l n = signOf v a l n
  | [], n => rfl
  | g :: r, n => by
    unfold Lx.signOf
    rw [h.begins a g ha]
    exact Same.signOf h a ha r _
theorem Same.signLen (h : Same u v) (a : Nat) (ha : 1 ≤ a) : signLen u a = signLen v a := h.signOf a ha _ _
theorem Same.quoteEnd (h : Same u v) (m : Int) (a : Nat) (ha : 1 ≤ a) : quoteEnd u m a = quoteEnd v m a := by
  unfold Lx.quoteEnd
  rw [h.B a ha, h.runQ m a (a + 1) (by omega)]
theorem Same.gap (h : Same u v) (a : Nat) (f : Bool) (ha : 1 ≤ a) : gap u a f = gap v a f := by
  unfold Lx.gap
  rw [h.pieceEnd a ha, ← h.size]
  by_cases hc : a < u.size ∧ a < Lx.pieceEnd v a
  · rw [dif_pos hc, dif_pos hc, h.firstBehind a _ f ha]
    exact Same.gap h _ _ (by omega)
  · rw [dif_neg hc, dif_neg hc]
  termination_by u.size - a
theorem Same.tokEnd (h : Same u v) (a : Nat) (f : Bool) (ha : 1 ≤ a) : tokEnd u a f = tokEnd v a f := by
  unfold Lx.tokEnd
  rw [h.B a ha, h.B (a + 1) (by omega), h.runW a ha, h.ext a _ ha, h.runN (a + 1) (by omega), h.quoteEnd _ a ha, h.signLen a ha]
  split
  · rename_i hc
    rw [runL_first u a (by rw [h.B a ha]; exact hc.2), runL_first v a hc.2, h.runL a (a + 1) ha (by omega)]
  · rfl
theorem Same.toks (h : Same u v) (a : Nat) (f : Bool) (ha : 1 ≤ a) (hs : a ≤ u.size) : toks u a f = toks v a f := by
  have h1 := gap_b u a f hs
  rw [toks_step u a f hs, toks_step v a f (by rw [← h.size]; exact hs), h.gap a f ha, h.tokEnd _ _ (by rw [h.gap a f ha] at h1; omega), h.ext a _ ha, h.ext a _ ha, h.ext _ _ (by rw [h.gap a f ha] at h1; omega), ← h.size]
  rw [h.gap a f ha] at h1
  split
  · rfl
  · have h2 := tokEnd_b v (Lx.gap v a f).1 (Lx.gap v a f).2 (by rw [← h.size]; omega)
    have hdec : u.size - (Lx.tokEnd v (Lx.gap v a f).1 (Lx.gap v a f).2).2 < u.size - a := by have := h.size; omega
    rw [Same.toks h _ false (by omega) (by rw [h.size]; exact h2.2)]
  termination_by u.size - a
end Lx
end Go.Proofs.YtjnafjgonoficaaGreatDoor
namespace Go.Proofs.YtjnafjgonoficaaGreatDoor
open Go.RowKit Go.Proofs.YtjnafjgonoficaaGreatDoorW.PrintWords
set_option linter.unusedVariables false
set_option linter.unusedSimpArgs false
/-- Tokens lie in a block, from a place on. -/
def TokAt (w : World) (g o : Nat) (L : List Lx.Tok) : Prop := ∀ i t, L[i]? = some t →
  w.cell? ⟨g, o + i * 4, none⟩ = some (.int .i64 t.k) ∧ w.cell? ⟨g, o + i * 4 + 1, none⟩ = some (.string t.b) ∧ w.cell? ⟨g, o + i * 4 + 2, none⟩ = some (.string t.t) ∧ w.cell? ⟨g, o + i * 4 + 3, none⟩ = some (.int .i64 t.a)
theorem tokCells_at (L : List Lx.Tok) (i : Nat) (t : Lx.Tok) (h : L[i]? = some t) :
    (tokCells L)[i * 4]? = some (.int .i64 t.k) ∧ (tokCells L)[i * 4 + 1]? = some (.string t.b) ∧ (tokCells L)[i * 4 + 2]? = some (.string t.t) ∧ (tokCells L)[i * 4 + 3]? = some (.int .i64 t.a) := by
  induction L generalizing i with
  | nil => simp at h
  | cons x r ih =>
    unfold tokCells
    rw [List.flatMap_cons]
    cases i with
    | zero => simp at h; subst h; simp
    | succ i =>
      have := ih i (by simpa using h)
      unfold tokCells at this
      simp only [Nat.succ_mul]
      refine ⟨?_, ?_, ?_, ?_⟩
      · rw [List.getElem?_append_right (by simp)]; simpa using this.1
      · rw [List.getElem?_append_right (by simp)]; have h2 := this.2.1; simpa [show i * 4 + 4 + 1 - 4 = i * 4 + 1 by omega] using h2
      · rw [List.getElem?_append_right (by simp)]; have h2 := this.2.2.1; simpa [show i * 4 + 4 + 2 - 4 = i * 4 + 2 by omega] using h2
      · rw [List.getElem?_append_right (by simp)]; have h2 := this.2.2.2; simpa [show i * 4 + 4 + 3 - 4 = i * 4 + 3 by omega] using h2
theorem add_none (g o j : Nat) : (⟨g, o, none⟩ : Addr).add j = ⟨g, o + j, none⟩ := by unfold Addr.add; split <;> simp_all
/-- A slice of tokens reads as a list; what lies below 'base' is not its own. -/
def Tks (w : World) (v : Value) (L : List Lx.Tok) : Prop := ∃ A c, v = .slice A L.length c ∧ L.length ≤ c ∧ c ≤ maxLen ∧ (L = [] ∨ ∃ g o, A = some ⟨g, o, none⟩ ∧ TokAt w g o L ∧ g < w.heap.size)
theorem own_tks {w : World} {base : Nat} {v : Value} {L : List Lx.Tok} (h : w.ownsRow base 29 4 v L.length (tokCells L)) : Tks w v L := by
  have hc := fun g => h.cells (g := g)
  rcases h.2 with ⟨rfl, hx⟩ | ⟨g, cap, cur, rfl, hb, hh, h1, h2, -, -⟩
  · exact ⟨none, 0, by rw [hx], by omega, Nat.zero_le _, .inl (List.eq_nil_of_length_eq_zero hx)⟩
  · refine ⟨_, cap, rfl, h1, h2, .inr ⟨g, 0, rfl, ?_, (Array.getElem?_eq_some_iff.1 hh).1⟩⟩
    intro i t ht
    obtain ⟨e0, e1, e2, e3⟩ := tokCells_at L i t ht
    have k0 := hc g rfl _ _ e0
    have k1 := hc g rfl _ _ e1
    have k2 := hc g rfl _ _ e2
    have k3 := hc g rfl _ _ e3
    rw [add_none] at k0 k1 k2 k3
    exact ⟨k0, by rw [show 0 + i * 4 + 1 = 0 + (i * 4 + 1) from by omega]; exact k1, by rw [show 0 + i * 4 + 2 = 0 + (i * 4 + 2) from by omega]; exact k2, by rw [show 0 + i * 4 + 3 = 0 + (i * 4 + 3) from by omega]; exact k3⟩
theorem TokAt.below {w w' : World} {g o : Nat} {L : List Lx.Tok} (h : TokAt w g o L) (hb : Below w.heap.size w w') (hg : g < w.heap.size) : TokAt w' g o L := fun i t ht => by
  obtain ⟨a0, a1, a2, a3⟩ := h i t ht
  exact ⟨(hb.cell hg).trans a0, (hb.cell hg).trans a1, (hb.cell hg).trans a2, (hb.cell hg).trans a3⟩
theorem Tks.below {w w' : World} {v : Value} {L : List Lx.Tok} (h : Tks w v L) (hb : Below w.heap.size w w') : Tks w' v L := by
  obtain ⟨A, c, e, h1, h2, h3⟩ := h
  refine ⟨A, c, e, h1, h2, h3.imp id ?_⟩
  rintro ⟨g, o, e2, h4, h5⟩
  exact ⟨g, o, e2, h4.below hb h5, Nat.lt_of_lt_of_le h5 hb.size⟩
theorem eqTokens_calls (v1 v2 : Value) (L : List Lx.Tok) (w : World) (hn2 : L.length ≤ 1000000) (h1 : Tks w v1 L) (h2 : Tks w v2 L) :
    Calls Tryz.prog 15 #[v1, v2] w fun e w' => e = .returned (.bool true) ∧ Drawn0 w w' := by
  obtain ⟨A1, c1, rfl, -, -, h1⟩ := h1
  obtain ⟨A2, c2, rfl, -, -, h2⟩ := h2
  obtain ⟨n, hn⟩ : ∃ n, L.length = n := ⟨_, rfl⟩
  rw [hn] at hn2 ⊢
  have HN := Aside0.mk hn
  have H1 := Aside0.mk h1
  have H2 := Aside0.mk h2
  clear h1 h2 hn
  go_enter Tryz.func15, Tryz.ntmps15
  go_wp2_with fail
  go_loopg [5] n (fun kq v5 w' => ∃ i : Nat, v5 = .int .i64 i ∧ Aside0 (i ≤ n ∧ kq = n - i) ∧ Drawn0 w w')
  case atStart => exact ⟨0, rfl, ⟨by omega, rfl⟩, Drawn0.refl _⟩
  case round =>
    obtain ⟨i, rfl, HA, ⟨m, rfl⟩⟩ := hrel
    have hi := HA.out.1
    by_cases hlt : i < n
    · obtain ⟨t, ht⟩ : ∃ t, L[i]? = some t := ⟨_, List.getElem?_eq_getElem (by have := HN.out; omega)⟩
      have hne : L ≠ [] := fun e => by rw [e] at ht; simp at ht
      obtain ⟨g1, o1, rfl, k1, -⟩ := H1.out.resolve_left hne
      obtain ⟨g2, o2, rfl, k2, -⟩ := H2.out.resolve_left hne
      obtain ⟨a0, a1, a2, a3⟩ := k1 i t ht
      obtain ⟨b0, b1, b2, b3⟩ := k2 i t ht
      clear k1 k2 H1 H2 ht hne
      go_wp2
      go_quiet (fail)
      go_wp2_with fail
      go_roundg (n - (i + 1))
      case measure => have := HA.out; omega
      case rel => exact ⟨i + 1, by go_num, ⟨by omega, rfl⟩, (by repeat (first | exact Drawn0.refl _ | assumption | apply Drawn0.step))⟩
    · obtain rfl : i = n := by omega
      go_wp2_with fail
      go_ret
      exact ⟨by simp, (by repeat (first | exact Drawn0.refl _ | assumption | apply Drawn0.step))⟩
end Go.Proofs.YtjnafjgonoficaaGreatDoor
namespace Go.Proofs.YtjnafjgonoficaaGreatDoor
open Go.RowKit Go.Proofs.YtjnafjgonoficaaGreatDoorW.PrintWords
set_option linter.unusedVariables false
set_option linter.unusedSimpArgs false
namespace Lx
/-- A text with a sign ahead. -/
def pre (c : UInt8) (s : ByteArray) : ByteArray := (⟨#[c]⟩ : ByteArray) ++ s
theorem pre_list (c : UInt8) (s : ByteArray) : (pre c s).data.toList = c :: s.data.toList := by
  unfold pre
  rw [show ((⟨#[c]⟩ : ByteArray) ++ s).data = (⟨#[c]⟩ : ByteArray).data ++ s.data from by simp [ByteArray.data_append]]
  simp
theorem pre_size (c : UInt8) (s : ByteArray) : (pre c s).size = s.size + 1 := by
  rw [← data_length, pre_list, List.length_cons, data_length]
theorem pre_same (c d : UInt8) (s : ByteArray) : Same (pre c s) (pre d s) := ⟨by rw [pre_size, pre_size], by rw [pre_list, pre_list]; rfl⟩
theorem pre_B0 (c : UInt8) (s : ByteArray) : B (pre c s) 0 = (c.toNat : Int) := by
  obtain ⟨b, hb, hg, -⟩ := B_at (pre c s) 0 (by rw [pre_size]; omega)
  rw [pre_list] at hg
  simp at hg
  rw [hb, hg]
theorem pre_sign (c : UInt8) (s : ByteArray) (h : c = 40 ∨ c = 59) : signLen (pre c s) 0 = 1 := by
  unfold signLen signs
  rcases h with rfl | rfl <;> simp [signOf, begins, pre_list, List.isPrefixOf]
theorem pre_scan (c : UInt8) (s : ByteArray) (h : c = 40 ∨ c = 59) : scan (pre c s) = ⟨6, (pre c s).extract 0 0, (pre c s).extract 0 1, 0⟩ :: toks (pre c s) 1 false := by
  have h0 := pre_B0 c s
  have hp : pieceEnd (pre c s) 0 = 0 := by
    unfold pieceEnd commentEnd
    rw [h0]
    rcases h with rfl | rfl <;> simp
  have hg := gap_halt (pre c s) 0 true (by rw [hp]; omega)
  have ht : tokEnd (pre c s) 0 true = (6, 1) := by
    unfold tokEnd
    rw [h0, pre_sign c s h]
    rcases h with rfl | rfl <;> simp [isL, isD]
  unfold scan
  rw [toks_step _ 0 true (Nat.zero_le _), hg]
  dsimp only
  rw [ht, pre_size, if_neg (by omega)]
  rfl

/-- A line's tokens as words, up to a line within it; where that one's text begins. -/
def wline (add : Int) : List Tok → List Tok × Option Nat
  | [] => ([], none)
  | t :: r => if t.k = 0 then wline add r else if t.k = 7 then ([⟨6, t.b, ⟨#[35]⟩, t.a - 1 + add⟩], some t.a.toNat)
    else (⟨t.k, t.b, t.t, t.a - 1 + add⟩ :: (wline add r).1, (wline add r).2)
/-- The words of a text. -/
def wd (s : ByteArray) (add : Int) : List Tok :=
  match (wline add (toks (pre 59 s) 1 false)).2 with
  | none => (wline add (toks (pre 59 s) 1 false)).1
  | some n => if h : 0 < n ∧ n ≤ s.size then (wline add (toks (pre 59 s) 1 false)).1 ++ wd (s.extract n s.size) (add + n) else (wline add (toks (pre 59 s) 1 false)).1
  termination_by s.size
  decreasing_by rw [ByteArray.size_extract]; omega

theorem toks_last (s : ByteArray) (a : Nat) (f : Bool) (h : a ≤ s.size) : ∃ (l : List Tok) (b : ByteArray), toks s a f = l ++ [⟨0, b, ⟨#[]⟩, (s.size : Nat)⟩] ∧ (∀ t ∈ l, t.k ≠ 0 ∧ ∃ p : Nat, t.a = (p : Int) ∧ a ≤ p ∧ p < s.size) := by
  have h1 := gap_b s a f h
  rw [toks_step s a f h]
  split
  · exact ⟨[], _, rfl, by simp⟩
  · have h2 := tokEnd_b s (gap s a f).1 (gap s a f).2 (by omega)
    obtain ⟨l, b, e, hl⟩ := toks_last s (tokEnd s (gap s a f).1 (gap s a f).2).2 false h2.2
    refine ⟨_ :: l, b, by rw [e]; rfl, ?_⟩
    intro t ht
    rcases List.mem_cons.1 ht with rfl | ht
    · refine ⟨?_, (gap s a f).1, rfl, h1.1, by omega⟩
      show (tokEnd s (gap s a f).1 (gap s a f).2).1 ≠ 0
      unfold tokEnd
      repeat' split
      all_goals simp
    · obtain ⟨k, p, e, hp1, hp2⟩ := hl t ht
      exact ⟨k, p, e, by omega, hp2⟩
  termination_by s.size - a
theorem toks_asc (s : ByteArray) (a : Nat) (f : Bool) (h : a ≤ s.size) : ∀ (i : Nat) (t : Tok), (toks s a f)[i]? = some t → (a : Int) + i ≤ t.a ∧ t.a ≤ s.size := by
  have h1 := gap_b s a f h
  rw [toks_step s a f h]
  split
  · intro i t ht
    cases i with
    | zero => simp at ht; subst ht; simp; omega
    | succ i => simp at ht
  · have h2 := tokEnd_b s (gap s a f).1 (gap s a f).2 (by omega)
    have ih := toks_asc s (tokEnd s (gap s a f).1 (gap s a f).2).2 false h2.2
    intro i t ht
    cases i with
    | zero => simp at ht; subst ht; simp; omega
    | succ i => have := ih i t (by simpa using ht); omega
  termination_by s.size - a
theorem wline_end (add : Int) (l : List Tok) (b : ByteArray) (e : ByteArray) (p : Int) : wline add (l ++ [⟨0, b, e, p⟩]) = wline add l := by
  induction l with
  | nil => simp [wline]
  | cons t r ih =>
    rw [List.cons_append]
    unfold wline
    rw [ih]
theorem wline_len (add : Int) (l : List Tok) : (wline add l).1.length ≤ l.length := by
  induction l with
  | nil => simp [wline]
  | cons t r ih =>
    unfold wline
    split
    · simp; omega
    · split
      · simp
      · simp; omega
theorem wline_at (add : Int) (l : List Tok) (n : Nat) (h : (wline add l).2 = some n) : ∃ i t, l[i]? = some t ∧ t.k = 7 ∧ t.a.toNat = n ∧ (wline add l).1.length ≤ i + 1 := by
  induction l with
  | nil => simp [wline] at h
  | cons t r ih =>
    unfold wline at h ⊢
    split at h
    · rename_i h0
      rw [if_pos h0]
      obtain ⟨i, t', h1, h2, h3, h4⟩ := ih h
      exact ⟨i + 1, t', by simpa using h1, h2, h3, by omega⟩
    · rename_i h0
      rw [if_neg h0]
      split at h
      · rename_i h7
        rw [if_pos h7]
        exact ⟨0, t, rfl, h7, by simpa using h, by simp⟩
      · rename_i h7
        rw [if_neg h7]
        obtain ⟨i, t', h1, h2, h3, h4⟩ := ih h
        exact ⟨i + 1, t', by simpa using h1, h2, h3, by simp; omega⟩
theorem wd_len (s : ByteArray) (add : Int) : (wd s add).length ≤ s.size + 1 := by
  have hb := pre_size 59 s
  have h1 := toks_len (pre 59 s) 1 false (by omega)
  have h2 := wline_len add (toks (pre 59 s) 1 false)
  unfold wd
  split
  · omega
  · rename_i n hn
    split
    · rename_i hh
      obtain ⟨i, t, e1, -, e3, e4⟩ := wline_at add _ n hn
      have h3 := toks_asc (pre 59 s) 1 false (by omega) i t e1
      have h4 := wd_len (s.extract n s.size) (add + n)
      rw [ByteArray.size_extract] at h4
      rw [List.length_append]
      omega
    · omega
  termination_by s.size
  decreasing_by rw [ByteArray.size_extract]; omega
end Lx
end Go.Proofs.YtjnafjgonoficaaGreatDoor
namespace Go.Proofs.YtjnafjgonoficaaGreatDoor
open Go.RowKit Go.Proofs.YtjnafjgonoficaaGreatDoorW.PrintWords
set_option linter.unusedVariables false
set_option linter.unusedSimpArgs false
theorem tokCells_one (L : List Lx.Tok) : ∀ u ∈ tokCells L, u.oneCell' = true := by
  intro u hu
  unfold tokCells at hu
  obtain ⟨t, -, ht⟩ := List.mem_flatMap.1 hu
  simp at ht
  rcases ht with rfl | rfl | rfl | rfl <;> rfl
theorem tokCells_len (L : List Lx.Tok) : (tokCells L).length = L.length * 4 := by
  unfold tokCells
  induction L with
  | nil => rfl
  | cons t r ih => rw [List.flatMap_cons, List.length_append, ih, List.length_cons]; simp; omega
theorem tokCells_app (D L : List Lx.Tok) : tokCells (D ++ L) = tokCells D ++ tokCells L := List.flatMap_append
theorem tok_append_own {ops : Array Oper} {rest : List Oper} {o : Oper} {a : Act} {Q : Exit → Act → World → Prop} {W : World} (base base2 : Nat) (hgd : o.guard = none) (s x : Operand)
    (ho : o.op = .call { callee := .builtin .append, args := #[s, x], argTypes := #[22, 22] }) (v v2 : Value) (D L : List Lx.Tok) (hs : a.eval s = v) (hx : a.eval x = v2)
    (H1 : W.ownsRow base 29 4 v D.length (tokCells D)) (H2 : W.ownsRow base2 29 4 v2 L.length (tokCells L)) (hbase : base ≤ W.heap.size) (hl : D.length + L.length ≤ 1000000)
    (h : ∀ v1 w1, w1.ownsRow base 29 4 v1 (D ++ L).length (tokCells (D ++ L)) → W.grownBy w1 v.ownBlock → wpList Tryz.prog ops Q rest (a.put o.dst v1) w1) :
    wpList Tryz.prog ops Q (o :: rest) a W := by
  obtain ⟨i0, hi, hz0, hz1, hz2⟩ := info_parts info29
  have hc := fun g => H2.cells (g := g)
  rcases H2.2 with ⟨rfl, hn⟩ | ⟨g, cap, cur, rfl, hb, hh, h1, h2, -, -⟩
  · obtain rfl : L = [] := List.eq_nil_of_length_eq_zero hn
    have hr : (Builtin.append_ #[22, 22] o.type #[v, .slice none 0 0]).run Tryz.prog W = .ok v W := by
      rcases H1.2 with ⟨rfl, hn⟩ | ⟨g, cap, cur, rfl, _, _, hnc, _⟩
      · simp [Builtin.append_, run_underlying Tryz.underlying22, sizeOf, typeInfo, hi, Builtin.lenOf, Builtin.firstCells]
      · simp [Builtin.append_, run_underlying Tryz.underlying22, sizeOf, typeInfo, hi, Builtin.lenOf, Builtin.firstCells, hnc, storeCells]
    refine wpList_plain hgd fun K hK => ?_
    unfold Oper.wp execOp
    simp only [ho, resolve, invoke, builtin, Sem.run_bind, Sem.run_pure, Result.andThen_ok, List.map_toArray, List.map_cons, List.map_nil, hs, hx, hr]
    exact hK _ _ (h v W (by simpa using H1) (World.grownBy.refl W _))
  · refine wpList_append_own_at W hgd s x 22 ho base 29 i0 _ 4 48 Tryz.underlying22 hi hz0 hz1 hz2 rfl (by omega) v D.length (tokCells D) hs H1 ⟨g, 0, none⟩ L.length cap (tokCells L) hx (tokCells_len L) (hc g rfl) (tokCells_one L) (by unfold maxLen; omega) (by omega) hbase ?_
    intro v' w' e1 e2 _ _
    exact h v' w' (by rw [List.length_append, tokCells_app]; exact e1) e2
end Go.Proofs.YtjnafjgonoficaaGreatDoor
namespace Go.Proofs.YtjnafjgonoficaaGreatDoor
open Go.RowKit Go.Proofs.YtjnafjgonoficaaGreatDoorW.PrintWords
set_option linter.unusedVariables false
set_option linter.unusedSimpArgs false
theorem TokAt.mid {w : World} {g o : Nat} {x : Lx.Tok} {l : List Lx.Tok} {r : List Lx.Tok} (h : TokAt w g o (x :: (l ++ r))) : TokAt w g (o + 4) l := fun i t ht => by
  have hl : i < l.length := (List.getElem?_eq_some_iff.1 ht).1
  have := h (i + 1) t (by rw [List.getElem?_cons_succ, List.getElem?_append_left hl]; exact ht)
  rw [show o + (i + 1) * 4 = o + 4 + i * 4 from by omega] at this
  exact this
theorem pre_toList (c : UInt8) (s : ByteArray) : (⟨#[c]⟩ : ByteArray) ++ s = Lx.pre c s := rfl
set_option maxRecDepth 100000 in
set_option maxHeartbeats 8000000 in
theorem words_calls (m : Nat) : ∀ (s : ByteArray) (add : Int) (w : World), s.size = m → s.size ≤ 20000 → 0 ≤ add → add + s.size ≤ 1000000 → MaxLen w → Blanks w → 5 ≤ w.heap.size →
    Calls Tryz.prog 41 #[.string s, .int .i64 add] w fun e w' => ∃ v, e = .returned v ∧ w'.ownsRow w.heap.size 29 4 v (Lx.wd s add).length (tokCells (Lx.wd s add)) ∧ Below w.heap.size w w' := by
  induction m using Nat.strongRecOn with
  | ind m ih =>
  intro s add w hsz hs ha0 ha1 hm hbl h5
  have IH := Aside0.mk ih
  have HSZ := Aside0.mk hsz
  clear ih hsz
  obtain ⟨l, b, hT, hl⟩ := Lx.toks_last (Lx.pre 59 s) 1 false (by rw [Lx.pre_size]; omega)
  have hscan : Lx.scan (Lx.pre 40 s) = ⟨6, (Lx.pre 40 s).extract 0 0, (Lx.pre 40 s).extract 0 1, 0⟩ :: (l ++ [⟨0, b, ⟨#[]⟩, ((Lx.pre 59 s).size : Nat)⟩]) := by
    rw [Lx.pre_scan 40 s (.inl rfl), (Lx.pre_same 40 59 s).toks 1 false (Nat.le_refl _) (by rw [Lx.pre_size]; omega), hT]
  have hpz : (Lx.pre 40 s).size ≤ 30000 := by rw [Lx.pre_size]; omega
  have hll := scan_len (Lx.pre 40 s)
  rw [hscan, Lx.pre_size] at hll
  simp at hll
  have hpre := pre_toList 40 s
  have HSC := Aside0.mk hscan
  have HTT := Aside0.mk hT
  have HL := Aside0.mk hl
  clear hscan hT hl
  obtain ⟨base, hbase⟩ : ∃ base, w.heap.size = base := ⟨_, rfl⟩
  rw [hbase]
  have HBASE := Aside0.mk hbase
  clear hbase
  go_enter Tryz.func41, Tryz.ntmps41
  go_wp2_with (go_at_call 63; (refine (lexScan_calls (Lx.pre 40 s) _ hpz ?_ ?_ ?_).mono ?_); exact hm; exact hbl; exact h5; rintro e w' ⟨v5, rfl, hv, hb⟩; rw [HSC.out] at hv; obtain ⟨A, c, rfl, hc1, hc2, hor⟩ := own_tks hv; obtain ⟨g, o, rfl, hta, hglt⟩ := hor.resolve_left (by simp); have HTA := Aside0.mk hta; have HB := Aside0.mk hb; have HGLT := Aside0.mk hglt; clear hv hb hor hta; simp only [List.length_cons, List.length_append, List.length_singleton] at hc1 ⊢)
  obtain ⟨base2, hb2⟩ : ∃ base2, w'.heap.size = base2 := ⟨_, rfl⟩
  have HB2 := Aside0.mk hb2
  have hsz2 : base2 ≤ w'.heap.size := by omega
  have HM := Aside0.mk hm
  have HBL := Aside0.mk hbl
  have H5 := Aside0.mk h5
  clear hb2 hpre hm hbl h5 hglt
  go_loopg [7, 26] l.length (fun kq v7 v26 W => ∃ (i : Nat) (D : List Lx.Tok), v26 = .int .i64 i ∧ Aside0 (i ≤ l.length ∧ D ++ (Lx.wline add (l.drop i)).1 = (Lx.wline add l).1 ∧ (Lx.wline add (l.drop i)).2 = (Lx.wline add l).2 ∧ D.length ≤ i ∧ kq = l.length - i) ∧
    W.ownsRow base2 29 4 v7 D.length (tokCells D) ∧ Below base2 w' W ∧ base2 ≤ W.heap.size)
  case atStart => exact ⟨0, [], rfl, ⟨by omega, rfl, rfl, Nat.le_refl _, rfl⟩, own_nil _ _ _ _, Below.refl _ _, hsz2⟩
  case round =>
    obtain ⟨i, D, rfl, HA, hown, hB, hbs⟩ := hrel
    have hi := HA.out.1
    by_cases hlt : i < l.length
    · obtain ⟨t, ht⟩ : ∃ t, l[i]? = some t := ⟨_, List.getElem?_eq_getElem hlt⟩
      obtain ⟨hk0, p, hp, hp1, hp2⟩ := HL.out t (List.mem_of_getElem? ht)
      rw [Lx.pre_size] at hp2
      have hdrop : l.drop i = t :: l.drop (i + 1) := by rw [List.drop_eq_getElem_cons hlt]; congr 1; rw [List.getElem?_eq_getElem hlt] at ht; exact Option.some.inj ht
      have htw : TokAt wr g (o + 4) l := (HTA.out.mid).below (by rw [HB2.out]; exact hB) (by have := HGLT.out; omega)
      obtain ⟨a0, a1, a2, a3⟩ := htw i t ht
      rw [hp] at a3
      have hw1 : IntKind.i64.wrap ((p : Int) - 1) = (p : Int) - 1 := IntWalk.i64_in _ (by omega)
      have hw2 : IntKind.i64.wrap ((p : Int) - 1 + add) = (p : Int) - 1 + add := IntWalk.i64_in _ (by omega)
      have hp3 : p ≤ 30000 := by omega
      have HD := Aside0.mk hdrop
      have HP := Aside0.mk (And.intro hp (And.intro hp1 hp2))
      have HOWN := Aside0.mk hown
      have HBB := Aside0.mk hB
      have HK0 := Aside0.mk hk0
      clear hdrop hp hp1 hp2 htw ht hown hB hk0
      cases hk : (t.k == 7)
      · go_wp2_with (at_builtin; refine print_append_cells (w0 := wr) base2 rfl (.tmp 48) (.tmp 50) 22 29 (.agg #[.int .i64 0, .string ⟨#[]⟩, .string ⟨#[]⟩, .int .i64 0]) 4 48 rfl Tryz.underlying22 (by kernel_rfl) rfl (by decide) (by decide) u7 D.length (tokCells D) [.int .i64 (t.k), .string t.b, .string t.t, .int .i64 ((p : Int) - 1 + add)] rfl (by simp [Act.eval]) rfl (by simp [Value.oneCell']) (HOWN.out.alloc _) ((Below.refl _ _).alloc (by omega) _) (by simp; omega) (by have := HA.out; omega) ?_; intro v1 w1 hv1 hb1 hg1 hat1; have HV1 := Aside0.mk hv1; have HB1 := Aside0.mk hb1; clear hv1 hb1 hg1 hat1)
        go_roundg (l.length - (i + 1))
        case measure => have := HA.out; omega
        case rel =>
          have hu : Lx.wline add (l.drop i) = (⟨t.k, t.b, t.t, t.a - 1 + add⟩ :: (Lx.wline add (l.drop (i + 1))).1, (Lx.wline add (l.drop (i + 1))).2) := by
            rw [HD.out]
            conv => lhs; unfold Lx.wline
            rw [if_neg HK0.out, if_neg (beq_eq_false_iff_ne.mp hk)]
          refine ⟨i + 1, D ++ [⟨t.k, t.b, t.t, t.a - 1 + add⟩], by go_num, ⟨by omega, ?_, ?_, ?_, rfl⟩, ?_, HBB.out.trans HB1.out, ?_⟩
          · have := HA.out.2.1
            rw [hu] at this
            rw [← this, List.append_assoc]; rfl
          · rw [← HA.out.2.2.1, hu]
          · have := HA.out; rw [List.length_append, List.length_singleton]; omega
          · rw [HP.out.1, List.length_append, tokCells_app, List.length_singleton]
            exact HV1.out
          · have := HB1.out.size; omega
      · have h7 := beq_iff_eq.mp hk
        have H7 := Aside0.mk h7
        have hw4 : IntKind.i64.wrap (add + (p : Int)) = add + (p : Int) := IntWalk.i64_in _ (by omega)
        have hp4 : p ≤ s.size := by have := HP.out.2.2; omega
        have hu : Lx.wline add (l.drop i) = ([(⟨6, t.b, ⟨#[35]⟩, t.a - 1 + add⟩ : Lx.Tok)], some p) := by
          rw [HD.out]
          conv => lhs; unfold Lx.wline
          rw [if_neg HK0.out, if_pos h7, HP.out.1]
          simp
        have HU := Aside0.mk hu
        clear h7 hu
        go_wp2_with (at_builtin; refine print_append_cells (w0 := wr) base2 rfl (.tmp 48) (.tmp 50) 22 29 (.agg #[.int .i64 0, .string ⟨#[]⟩, .string ⟨#[]⟩, .int .i64 0]) 4 48 rfl Tryz.underlying22 (by kernel_rfl) rfl (by decide) (by decide) u7 D.length (tokCells D) [.int .i64 (6), .string t.b, .string ⟨#[35]⟩, .int .i64 ((p : Int) - 1 + add)] rfl (by simp [Act.eval]) rfl (by simp [Value.oneCell']) (HOWN.out.alloc _) ((Below.refl _ _).alloc (by omega) _) (by simp; omega) (by have := HA.out; omega) ?_; intro v1 w1 hv1 hb1 hg1 hat1; have HV1 := Aside0.mk hv1; have HB1 := Aside0.mk hb1; clear hv1 hb1 hg1 hat1)
        have hbb : base ≤ base2 := by have h1 := HB.out.size; have h2 := HBASE.out; have h3 := HB2.out; omega
        have hBW : Below base w w1 := by
          have h1 := HB.out
          rw [HBASE.out] at h1
          exact h1.trans ((HBB.out.trans HB1.out).mono hbb)
        have h50 : 5 ≤ base := by have h1 := H5.out; have h2 := HBASE.out; omega
        have hm1 : MaxLen w1 := HM.out.belowN hBW (by omega)
        have hbl1 : Blanks w1 := HBL.out.below (by rw [HBASE.out]; exact hBW) (by have h2 := HBASE.out; omega)
        have hsw1 : base2 ≤ w1.heap.size := by have h1 := HB1.out.size; omega
        have h51 : 5 ≤ w1.heap.size := by omega
        have hv1 : w1.ownsRow base2 29 4 v1 (D ++ [(⟨6, t.b, ⟨#[35]⟩, t.a - 1 + add⟩ : Lx.Tok)]).length (tokCells (D ++ [(⟨6, t.b, ⟨#[35]⟩, t.a - 1 + add⟩ : Lx.Tok)])) := by
          rw [HP.out.1, List.length_append, tokCells_app, List.length_singleton]
          exact HV1.out
        have hD1 : D ++ [(⟨6, t.b, ⟨#[35]⟩, t.a - 1 + add⟩ : Lx.Tok)] = (Lx.wline add l).1 := by
          have h1 := HA.out.2.1; rw [HU.out] at h1; exact h1
        have hD2 : (Lx.wline add l).2 = some p := by rw [← HA.out.2.2.1, HU.out]
        have hwd : Lx.wd s add = D ++ [(⟨6, t.b, ⟨#[35]⟩, t.a - 1 + add⟩ : Lx.Tok)] ++ Lx.wd (s.extract p s.size) (add + p) := by
          rw [hD1]
          conv => lhs; unfold Lx.wd
          rw [HTT.out, Lx.wline_end, hD2]
          have hcc : 0 < p ∧ p ≤ s.size := ⟨by have := HP.out.2.1; omega, hp4⟩
          simp only [dif_pos hcc]
        have hwl := Lx.wd_len s add
        rw [hwd, List.length_append] at hwl
        generalize D ++ [(⟨6, t.b, ⟨#[35]⟩, t.a - 1 + add⟩ : Lx.Tok)] = D1 at hv1 hD1 hwd hwl
        have HV1' := Aside0.mk hv1
        have HBW := Aside0.mk hBW
        have HWD := Aside0.mk hwd
        have HWL := Aside0.mk hwl
        have hsz' : (s.extract p s.size).size = s.size - p := by rw [ByteArray.size_extract]; omega
        have HSX := Aside0.mk hsz'
        clear hv1 hBW hwd hwl hD1 hD2 hsz'
        go_at_call 41
        refine (IH.out (s.size - p) (by have h1 := HP.out.2.1; have h2 := HSZ.out; omega) (s.extract p s.size) (add + p) _ HSX.out (by rw [HSX.out]; omega) (by omega) (by rw [HSX.out]; omega) hm1 hbl1 h51).mono ?_
        rintro e w2 ⟨v2, rfl, hv2, hb2⟩
        have HV2 := Aside0.mk hv2
        have HBW2 := Aside0.mk hb2
        have hown1 := HV1'.out.kept (grown_below (World.grownBy.refl _ none) hb2) (Classical.em _)
        have HOWN1 := Aside0.mk hown1
        have hsw2 : base2 ≤ w2.heap.size := by have h1 := hb2.size; omega
        clear hv2 hb2 hown1
        go_wp2_with (at_builtin; refine tok_append_own base2 w1.heap.size rfl (.tmp 53) (.tmp 60) rfl v1 v2 D1 (Lx.wd (s.extract p s.size) (add + p)) rfl rfl HOWN1.out HV2.out hsw2 (by have := HWL.out; omega) ?_; intro v3 w3 hv3 hg3; have HV3 := Aside0.mk hv3; have HG3 := Aside0.mk hg3; clear hv3 hg3)
        go_ret
        refine ⟨_, rfl, by rw [HWD.out]; exact own_lower HV3.out hbb, ?_⟩
        exact (HBW.out.trans (HBW2.out.mono (by omega))).grown HG3.out (by omega) (fun k hk => Nat.le_trans hbb (own_base HOWN1.out k hk))
    · have hil : i = l.length := by omega
      have hnil : l.drop i = [] := List.drop_eq_nil_of_le (by omega)
      have e1 := HA.out.2.1
      have e2 := HA.out.2.2.1
      rw [hnil] at e1 e2
      simp only [Lx.wline, List.append_nil] at e1 e2
      have hwd : Lx.wd s add = D := by
        conv => lhs; unfold Lx.wd
        rw [HTT.out, Lx.wline_end, ← e2, ← e1]
      have HWD := Aside0.mk hwd
      have hild : decide (i < l.length) = false := decide_eq_false hlt
      have HOWN := Aside0.mk hown
      have HBB := Aside0.mk hB
      clear hil hnil e1 e2 hwd hlt hown hB
      go_wp2_with fail
      go_ret
      have hbb : base ≤ base2 := by have h1 := HB.out.size; have h2 := HBASE.out; have h3 := HB2.out; omega
      have h1 := HB.out
      rw [HBASE.out] at h1
      exact ⟨_, rfl, by rw [HWD.out]; exact own_lower HOWN.out hbb, h1.trans (HBB.out.mono hbb)⟩
end Go.Proofs.YtjnafjgonoficaaGreatDoor
