/-
  The evaluator of conditions in memory; its calls 'is' and 'fail'. Conditions: the evaluator's block is its own.
  The search for an operator that comes. Conditions: the evaluator's block is its own; the operators lie in memory.
  What the value of a name comes to. Conditions: the definitions lie in memory; their texts are short; the library's error variables hold what they may.
  What the operators of the evaluator do. Conditions: none.
  The evaluator's state read and turned by hand; 'defined'. Conditions: the evaluator's block is its own; what numbers and names come to is known.
  What the evaluator's operators with two sides come to. Conditions: the evaluator's block is its own; what its operands come to is known.
-/
import Derived.Test.YtjnafjgonoficaaGreatDoorK08
namespace Go.Proofs.YtjnafjgonoficaaGreatDoor
open Go.RowKit Go.Proofs.YtjnafjgonoficaaGreatDoorW.PrintWords
set_option linter.unusedVariables false
set_option linter.unusedSimpArgs false
/-- The evaluator in memory: its block is the first one behind a world in which its words lie. -/
def EV (w0 w : World) (dv ov : Value) (S : Lx.ES) : Prop := ∃ lv, w.heap[w0.heap.size]? = some (.cells #[lv, dv, ov, .bool S.bad] 95 (0, 0)) ∧ Tks w0 lv S.l ∧ Below w0.heap.size w0 w
theorem EV.grown {w0 w w' : World} {dv ov : Value} {S : Lx.ES} (h : EV w0 w dv ov S) (hg : w.grownBy w' none) : EV w0 w' dv ov S := by
  obtain ⟨lv, h1, h2, h3⟩ := h
  exact ⟨lv, (hg.block _ (blk_lt h1) (by simp)).trans h1, h2, h3.grown hg (by have := blk_lt h1; omega) (fun k hk => by cases hk)⟩
/-- One word is taken. -/
theorem Tks.tail {w : World} {c : Nat} {g o : Nat} {L : List Lx.Tok} {t : Lx.Tok} (h : Tks w (.slice (some ⟨g, o, none⟩) (L.length + 1) c) (t :: L)) : Tks w (.slice (some ⟨g, o + 4, none⟩) L.length (c - 1)) L := by
  obtain ⟨A', c', e, h1, h2, h3⟩ := h
  simp only [Value.slice.injEq] at e
  obtain ⟨rfl, e2, rfl⟩ := e
  simp only [List.length_cons] at h1
  refine ⟨_, _, rfl, by omega, by omega, ?_⟩
  obtain ⟨g', o', e3, h4, h5⟩ := h3.resolve_left (by simp)
  simp only [Option.some.injEq, Addr.mk.injEq, and_true] at e3
  obtain ⟨rfl, rfl⟩ := e3
  refine .inr ⟨g, o + 4, rfl, ?_, h5⟩
  intro i x hx
  have := h4 (i + 1) x (by simpa using hx)
  rw [show o + (i + 1) * 4 = o + 4 + i * 4 from by omega] at this
  exact this
theorem fail_calls (w0 w : World) (dv ov : Value) (S : Lx.ES) (h : EV w0 w dv ov S) :
    Calls Tryz.prog 137 #[.pointer (some ⟨w0.heap.size, 0, none⟩)] w fun e w' => e = .returned (.int .i64 0) ∧ EV w0 w' dv ov S.fail ∧ w.grownBy w' (some w0.heap.size) := by
  obtain ⟨lv, h1, h2, h3⟩ := h
  obtain ⟨x, hx⟩ : ∃ x, w0.heap.size = x := ⟨_, rfl⟩
  have H2 := Aside0.mk h2
  have H3 := Aside0.mk h3
  have HX := Aside0.mk hx
  rw [hx] at h1 ⊢
  have H1 := Aside0.mk h1
  have c3 : w.cell? ⟨x, 3, none⟩ = some (.bool S.bad) := by rw [blk_cell h1]; rfl
  have z3 := blk_frozen h1 3
  have hl := blk_lt h1
  clear h1 h2 h3 hx
  go_enter Tryz.func137, Tryz.ntmps137
  go_wp2_with fail
  go_ret
  have hg : w.grownBy (w.setCell ⟨x, 3, none⟩ (.bool true)) (some x) := grown_set (World.grownBy.refl _ _) _ _
  refine ⟨rfl, ⟨lv, ?_, H2.out, ?_⟩, hg⟩
  · rw [HX.out]; exact blk_set H1.out 3 _
  · exact H3.out.grown hg (by rw [HX.out]; omega) (fun k hk => by cases hk; rw [HX.out]; exact Nat.le_refl _)
set_option maxRecDepth 100000 in
theorem is_calls (w0 w : World) (dv ov : Value) (S : Lx.ES) (gs : List UInt8) (gb : ByteArray) (hgb : gb.toList = gs) (h : EV w0 w dv ov S) :
    Calls Tryz.prog 86 #[.pointer (some ⟨w0.heap.size, 0, none⟩), .string gb] w fun e w' => e = .returned (.bool (Lx.isS S gs)) ∧ EV w0 w' dv ov (if Lx.isS S gs = true then S.tl else S) ∧ w.grownBy w' (some w0.heap.size) := by
  have h0 := h
  obtain ⟨lv, h1, h2, h3⟩ := h
  have h2' := h2
  obtain ⟨A, c, rfl, hc1, hc2, hA⟩ := h2
  obtain ⟨x, hx⟩ : ∃ x, w0.heap.size = x := ⟨_, rfl⟩
  have H0 := Aside0.mk h0
  have H3 := Aside0.mk h3
  have HX := Aside0.mk hx
  rw [hx] at h1 ⊢
  have H1 := Aside0.mk h1
  have c0 : w.cell? ⟨x, 0, none⟩ = some (.slice A S.l.length c) := by rw [blk_cell h1]; rfl
  have z0 := blk_frozen h1 0
  have hl := blk_lt h1
  have hbx : ∀ {g o : Nat} {L : List Lx.Tok}, TokAt w0 g o L → g < w0.heap.size → TokAt w g o L := fun a b => a.below h3 b
  obtain ⟨l, bad⟩ := S
  cases l with
  | nil =>
    have hf : Lx.isS ⟨[], bad⟩ gs = false := rfl
    rw [hf]
    clear h1 h3 hx h0 hA hbx h2'
    go_enter Tryz.func86, Tryz.ntmps86
    go_wp2_with fail
    go_ret
    exact ⟨rfl, H0.out, World.grownBy.refl _ _⟩
  | cons t r =>
    obtain ⟨g, o, rfl, hta, hgl⟩ := hA.resolve_left (by simp)
    obtain ⟨a0, a1, a2, a3⟩ := (hbx hta hgl) 0 t rfl
    have H2 := Aside0.mk h2'
    have hlen : ((⟨t :: r, bad⟩ : Lx.ES).l.length : Int) = (r.length : Int) + 1 := by simp
    simp only [Nat.zero_mul, Nat.add_zero, List.length_cons] at a0 a1 a2 a3 c0 hc1
    clear h1 h3 hx h0 hA hbx hta h2'
    have hr1 : decide ((r.length : Int) + 1 = 0) = false := decide_eq_false (by omega)
    have hr2 : (((r.length : Int) + 1) == 0) = false := by rw [beq_eq_false_iff_ne]; omega
    have hdef : Lx.isS ⟨t :: r, bad⟩ gs = (decide (t.k = 6) && (t.t.toList == gs)) := rfl
    rw [hdef]
    clear hlen hdef
    cases hk : (t.k != 6)
    · rw [decide_eq_true (bne_eq_false_iff_eq.mp hk), Bool.true_and]
      cases hs : (t.t.toList == gs)
      · go_enter Tryz.func86, Tryz.ntmps86
        go_wp2_with fail
        go_ret
        exact ⟨rfl, H0.out, World.grownBy.refl _ _⟩
      · by_cases hc : c = 1
        · subst hc
          have hr0 : r.length = 0 := by omega
          have HR := Aside0.mk hr0
          clear hr0
          go_enter Tryz.func86, Tryz.ntmps86
          go_wp2_with fail
          go_ret
          have hg : w.grownBy (w.setCell ⟨x, 0, none⟩ (.slice (some ⟨g, o, none⟩) 0 0)) (some x) := grown_set (World.grownBy.refl _ _) _ _
          refine ⟨rfl, ⟨.slice (some ⟨g, o, none⟩) 0 0, by rw [HX.out]; exact blk_set H1.out 0 _, ?_, ?_⟩, hg⟩
          · obtain rfl : r = [] := List.eq_nil_of_length_eq_zero HR.out
            exact ⟨_, _, rfl, Nat.le_refl _, Nat.zero_le _, .inl rfl⟩
          · exact H3.out.grown hg (by rw [HX.out]; omega) (fun k hk => by cases hk; rw [HX.out]; exact Nat.le_refl _)
        · go_enter Tryz.func86, Tryz.ntmps86
          go_wp2_with fail
          go_ret
          have hg : w.grownBy (w.setCell ⟨x, 0, none⟩ (.slice (some ⟨g, o + 4, none⟩) r.length (c - 1))) (some x) := grown_set (World.grownBy.refl _ _) _ _
          refine ⟨rfl, ⟨_, by rw [HX.out]; exact blk_set H1.out 0 _, H2.out.tail, ?_⟩, hg⟩
          exact H3.out.grown hg (by rw [HX.out]; omega) (fun k hk => by cases hk; rw [HX.out]; exact Nat.le_refl _)
    · rw [decide_eq_false (bne_iff_ne.mp hk), Bool.false_and]
      go_enter Tryz.func86, Tryz.ntmps86
      go_wp2_with fail
      go_ret
      exact ⟨rfl, H0.out, World.grownBy.refl _ _⟩
end Go.Proofs.YtjnafjgonoficaaGreatDoor
namespace Go.Proofs.YtjnafjgonoficaaGreatDoor
open Go.RowKit Go.Proofs.YtjnafjgonoficaaGreatDoorW.PrintWords
set_option linter.unusedVariables false
set_option linter.unusedSimpArgs false
def opFuncs : List Nat := [68, 70, 71, 72, 73, 74, 75, 76, 77, 78, 79, 80, 82]
/-- The operators lie in a block. -/
def OpsAt (w : World) (g : Nat) : Prop := g < w.heap.size ∧ ∀ (j : Nat) (o : List UInt8 × Nat), Lx.ops[j]? = some o → w.cell? ⟨g, j * 3, none⟩ = some (.string ⟨o.1.toArray⟩) ∧ w.cell? ⟨g, j * 3 + 1, none⟩ = some (.int .i64 o.2) ∧ ∃ k, opFuncs[j]? = some k ∧ w.cell? ⟨g, j * 3 + 2, none⟩ = some (.func (.func k) #[] #[])
theorem OpsAt.below {w w' : World} {g : Nat} (h : OpsAt w g) (hb : Below w.heap.size w w') : OpsAt w' g := by
  refine ⟨Nat.lt_of_lt_of_le h.1 hb.size, fun j o hj => ?_⟩
  obtain ⟨h1, h2, k, h3, h4⟩ := h.2 j o hj
  exact ⟨(hb.cell h.1).trans h1, (hb.cell h.1).trans h2, k, h3, (hb.cell h.1).trans h4⟩
set_option maxRecDepth 100000 in
theorem binary1_calls (w0 w : World) (dv ov : Value) (S : Lx.ES) (sg : List UInt8) (ol lv b2 b3 k : Nat) (h : EV w0 w dv ov S) (h3 : w.cell? ⟨b3, 0, none⟩ = some (.int .i64 lv)) (h2 : w.cell? ⟨b2, 0, none⟩ = some (.pointer (some ⟨w0.heap.size, 0, none⟩))) (hb3 : b3 < w.heap.size) (hb2 : b2 < w.heap.size) :
    Calls Tryz.prog 85 #[.agg #[.string ⟨sg.toArray⟩, .int .i64 ol, .func (.func k) #[] #[]], .pointer (some ⟨b3, 0, none⟩), .pointer (some ⟨b2, 0, none⟩)] w fun e w' =>
      e = .returned (.bool (decide (ol = lv) && Lx.isS S sg)) ∧ EV w0 w' dv ov (if (decide (ol = lv) && Lx.isS S sg) = true then S.tl else S) ∧ w.grownBy w' (some w0.heap.size) := by
  have hEV := h.grown (World.grownBy_alloc w (.cells #[.string ⟨sg.toArray⟩, .int .i64 ol, .func (.func k) #[] #[]] 118) none)
  have H := Aside0.mk (is_calls w0 _ dv ov S sg ⟨sg.toArray⟩ (by rw [ByteArray.toList_eq]) hEV)
  have HEV := Aside0.mk hEV
  clear h hEV
  by_cases hd : ol = lv
  · subst hd
    rw [decide_eq_true rfl, Bool.true_and]
    obtain ⟨S', hS'⟩ : ∃ S', (if Lx.isS S sg = true then S.tl else S) = S' := ⟨_, rfl⟩
    rw [hS']
    have HS' := Aside0.mk hS'
    clear hS'
    have hd2 : ((ol : Int) == (ol : Int)) = true := by simp
    go_enter Tryz.func85, Tryz.ntmps85
    go_wp2_with (go_at_call 86; (refine H.out.mono ?_); rintro e w' ⟨rfl, hev, hg⟩; have HEV2 := Aside0.mk hev; have HG2 := Aside0.mk hg; clear hev hg)
    go_ret
    exact ⟨rfl, by rw [← HS'.out]; exact HEV2.out, grown_trans (World.grownBy_alloc _ _ _) HG2.out⟩
  · rw [decide_eq_false hd, Bool.false_and]
    clear H
    have hd2 : ((ol : Int) == (lv : Int)) = false := by rw [beq_eq_false_iff_ne]; omega
    go_enter Tryz.func85, Tryz.ntmps85
    go_wp2_with fail
    go_ret
    exact ⟨rfl, HEV.out, World.grownBy_alloc _ _ _⟩
/-- The place that is found, as a number. -/
def placeOf (o : Option Nat) : Int := match o with | none => -1 | some j => (j : Int)
theorem ops_len : Lx.ops.length = 13 := rfl
theorem findFrom_at (lv : Nat) (S : Lx.ES) (l : List (List UInt8 × Nat)) (j : Nat) (o : List UInt8 × Nat) (i : Nat) (h : l[i]? = some o) : Lx.findFrom lv S (l.drop i) j = if (decide (o.2 = lv) && Lx.isS S o.1) = true then some j else Lx.findFrom lv S (l.drop (i + 1)) (j + 1) := by
  obtain ⟨hi, rfl⟩ := List.getElem?_eq_some_iff.1 h
  rw [List.drop_eq_getElem_cons hi]
  rfl
set_option maxRecDepth 100000 in
theorem findOp_calls (w0 w : World) (dv : Value) (og lv b2 b3 : Nat) (S : Lx.ES) (hO : OpsAt w0 og) (h : EV w0 w dv (.slice (some ⟨og, 0, none⟩) 13 13) S) (h3 : w.heap[b3]? = some (.cells #[.int .i64 lv] 3 (0, 0))) (h2 : w.heap[b2]? = some (.cells #[.pointer (some ⟨w0.heap.size, 0, none⟩)] 91 (0, 0))) (hx2 : b2 ≠ w0.heap.size) (hx3 : b3 ≠ w0.heap.size) :
    Calls Tryz.prog 84 #[.slice (some ⟨og, 0, none⟩) 13 13, .func (.func 85) #[] #[.pointer (some ⟨b3, 0, none⟩), .pointer (some ⟨b2, 0, none⟩)]] w fun e w' =>
      e = .returned (.int .i64 (placeOf (Lx.findOp lv S))) ∧ EV w0 w' dv (.slice (some ⟨og, 0, none⟩) 13 13) (if (Lx.findOp lv S).isSome = true then S.tl else S) ∧ w.grownBy w' (some w0.heap.size) := by
  obtain ⟨R, hR⟩ : ∃ R, Lx.findOp lv S = R := ⟨_, rfl⟩
  rw [hR]
  obtain ⟨S', hS'⟩ : ∃ S', (if R.isSome = true then S.tl else S) = S' := ⟨_, rfl⟩
  rw [hS']
  have HS' := Aside0.mk hS'
  clear hS'
  obtain ⟨pl, hpl⟩ : ∃ pl, placeOf R = pl := ⟨_, rfl⟩
  rw [hpl]
  have HPL := Aside0.mk hpl
  clear hpl
  have HR := Aside0.mk hR
  have HEV := Aside0.mk h
  have HO := Aside0.mk hO
  have H3 := Aside0.mk h3
  have H2 := Aside0.mk h2
  clear h h3 h2 hR hO
  go_enter Tryz.func84, Tryz.ntmps84
  go_wp2_with fail
  go_loopg [8] 13 (fun kq v8 W => ∃ i : Nat, v8 = .int .i64 i ∧ Aside0 (i ≤ 13 ∧ kq = 13 - i ∧ Lx.findFrom lv S (Lx.ops.drop i) i = R) ∧ Aside0 (EV w0 W dv (.slice (some ⟨og, 0, none⟩) 13 13) S) ∧ Aside0 (w.grownBy W (some w0.heap.size)))
  case atStart => exact ⟨0, rfl, ⟨by omega, rfl, HR.out⟩, HEV, ⟨World.grownBy.refl _ _⟩⟩
  case round =>
    obtain ⟨i, rfl, HI, HE, HW⟩ := hrel
    have hi := HI.out.1
    by_cases hlt : i < 13
    · obtain ⟨o, ho⟩ : ∃ o, Lx.ops[i]? = some o := ⟨_, List.getElem?_eq_getElem hlt⟩
      obtain ⟨sg, ol⟩ := o
      have hbW : Below w0.heap.size w0 wr := by obtain ⟨_, _, _, e⟩ := HE.out; exact e
      obtain ⟨a0, a1, k, -, a2⟩ := (HO.out.below hbW).2 i _ ho
      dsimp only at a0 a1 a2
      have hff := findFrom_at lv S Lx.ops i (sg, ol) i ho
      rw [HI.out.2.2] at hff
      have g3 := (HW.out.block b3 (blk_lt H3.out) (by simpa using hx3)).trans H3.out
      have g2 := (HW.out.block b2 (blk_lt H2.out) (by simpa using hx2)).trans H2.out
      have HC := Aside0.mk (binary1_calls w0 wr dv _ S sg ol lv b2 b3 k HE.out (by rw [blk_cell g3]; rfl) (by rw [blk_cell g2]; rfl) (blk_lt g3) (blk_lt g2))
      obtain ⟨f, hf⟩ : ∃ f, (decide (ol = lv) && Lx.isS S sg) = f := ⟨_, rfl⟩
      dsimp only at hff
      rw [hf] at hff HC
      have HFF := Aside0.mk hff
      clear hff hf g3 g2 ho hbW
      cases f
      · go_wp2_with (go_at_call 85; (refine HC.out.mono ?_); rintro e w' ⟨rfl, hev, hg⟩; have HEV2 := Aside0.mk hev; have HG2 := Aside0.mk hg; clear hev hg)
        go_roundg (13 - (i + 1))
        case measure => have := HI.out; omega
        case rel =>
          refine ⟨i + 1, by go_num, ⟨by omega, rfl, ?_⟩, HEV2, ⟨grown_trans HW.out HG2.out⟩⟩
          exact (HFF.out).symm
      · go_wp2_with (go_at_call 85; (refine HC.out.mono ?_); rintro e w' ⟨rfl, hev, hg⟩; have HEV2 := Aside0.mk hev; have HG2 := Aside0.mk hg; clear hev hg)
        go_ret
        rw [← HS'.out, ← HPL.out, HFF.out]
        exact ⟨rfl, HEV2.out, grown_trans HW.out HG2.out⟩
    · obtain rfl : i = 13 := by omega
      have hff := HI.out.2.2
      have hnone : Lx.findFrom lv S (Lx.ops.drop 13) 13 = none := rfl
      rw [hnone] at hff
      have HFF := Aside0.mk hff
      clear hff hnone
      go_wp2_with fail
      go_ret
      rw [← HS'.out, ← HPL.out, ← HFF.out]
      exact ⟨rfl, HE.out, HW.out⟩
end Go.Proofs.YtjnafjgonoficaaGreatDoor
namespace Go.Proofs.YtjnafjgonoficaaGreatDoor
open Go.RowKit Go.Proofs.YtjnafjgonoficaaGreatDoorW.PrintWords
set_option linter.unusedVariables false
set_option linter.unusedSimpArgs false
namespace Lx
/-- The place of the first definition of a name. -/
def defFrom (name : List UInt8) : List (ByteArray × ByteArray) → Nat → Option Nat
  | [], _ => none
  | d :: r, j => if (d.1.toList == name) = true then some j else defFrom name r (j + 1)
/-- What a definition's text is worth. -/
def worth (s : ByteArray) : Int := match Lib.parseIntB 64 s.data.toList with | .ok v => v | _ => 0
/-- The value of a name, and whether it is defined. -/
def valOf (defs : List (ByteArray × ByteArray)) (name : ByteArray) : Int × Bool := match defFrom name.toList defs 0 with
  | none => (0, false)
  | some j => match defs[j]? with | none => (0, false) | some d => (worth d.2, true)
theorem defFrom_at (name : List UInt8) (l : List (ByteArray × ByteArray)) (j : Nat) (d : ByteArray × ByteArray) (i : Nat) (h : l[i]? = some d) : defFrom name (l.drop i) j = if (d.1.toList == name) = true then some j else defFrom name (l.drop (i + 1)) (j + 1) := by
  obtain ⟨hi, rfl⟩ := List.getElem?_eq_some_iff.1 h
  rw [List.drop_eq_getElem_cons hi]
  rfl
theorem defFrom_lt (name : List UInt8) : ∀ (l : List (ByteArray × ByteArray)) (j k : Nat), defFrom name l j = some k → j ≤ k ∧ k < j + l.length
  | [], j, k, h => by simp [defFrom] at h
  | d :: r, j, k, h => by
    unfold defFrom at h
    split at h
    · cases h; simp
    · have := defFrom_lt name r (j + 1) k h
      simp only [List.length_cons]; omega
end Lx
/-- Definitions lie in memory. -/
def Dfs (w : World) (v : Value) (L : List (ByteArray × ByteArray)) : Prop := ∃ A c, v = .slice A L.length c ∧ L.length ≤ c ∧ c ≤ maxLen ∧ L.length ≤ 100000 ∧ (∀ d ∈ L, d.2.size ≤ 1000000) ∧ (L = [] ∨ ∃ g o, A = some ⟨g, o, none⟩ ∧ g < w.heap.size ∧
  ∀ (i : Nat) (d : ByteArray × ByteArray), L[i]? = some d → w.cell? ⟨g, o + i * 2, none⟩ = some (.string d.1) ∧ w.cell? ⟨g, o + i * 2 + 1, none⟩ = some (.string d.2))
theorem Dfs.below {w w' : World} {v : Value} {L : List (ByteArray × ByteArray)} (h : Dfs w v L) (hb : Below w.heap.size w w') : Dfs w' v L := by
  obtain ⟨A, c, e, h1, h2, h3, h4, h5⟩ := h
  refine ⟨A, c, e, h1, h2, h3, h4, h5.imp id ?_⟩
  rintro ⟨g, o, e2, hg, h6⟩
  exact ⟨g, o, e2, Nat.lt_of_lt_of_le hg hb.size, fun i d hd => ⟨(hb.cell hg).trans (h6 i d hd).1, (hb.cell hg).trans (h6 i d hd).2⟩⟩
/-- The library's variables that hold errors. -/
def Errs (w : World) : Prop := 4 ≤ w.heap.size ∧ (∃ ev, w.cell? ⟨2, 0, none⟩ = some ev ∧ (ev = .nilIface ∨ ∃ te pe, ev = .iface te pe)) ∧ ∃ ev, w.cell? ⟨3, 0, none⟩ = some ev ∧ (ev = .nilIface ∨ ∃ te pe, ev = .iface te pe)
theorem Errs.grown {w w' : World} (h : Errs w) (hg : w.grownBy w' none) : Errs w' := by
  obtain ⟨h4, ⟨e1, h1, h2⟩, e3, h3, h5⟩ := h
  exact ⟨Nat.le_trans h4 hg.size, ⟨e1, hg.cell h1 (by simp), h2⟩, e3, hg.cell h3 (by simp), h5⟩
theorem Errs.below {w w' : World} (h : Errs w) (hb : Below w.heap.size w w') : Errs w' := by
  obtain ⟨h4, ⟨e1, h1, h2⟩, e3, h3, h5⟩ := h
  exact ⟨Nat.le_trans h4 hb.size, ⟨e1, (hb.cell (show 2 < _ by omega)).trans h1, h2⟩, e3, (hb.cell (show 3 < _ by omega)).trans h3, h5⟩
set_option maxRecDepth 100000 in
theorem findDef_calls (w : World) (dv : Value) (defs : List (ByteArray × ByteArray)) (name : ByteArray) (nl : List UInt8) (hnl : name.toList = nl) (b : Nat) (hD : Dfs w dv defs) (hb : w.heap[b]? = some (.cells #[.string name] 9 (0, 0))) :
    Calls Tryz.prog 105 #[dv, .func (.func 106) #[] #[.pointer (some ⟨b, 0, none⟩)]] w fun e w' => e = .returned (.int .i64 (placeOf (Lx.defFrom nl defs 0))) ∧ w.grownBy w' none := by
  obtain ⟨R, hR⟩ : ∃ R, Lx.defFrom nl defs 0 = R := ⟨_, rfl⟩
  rw [hR]
  obtain ⟨pl, hpl⟩ : ∃ pl, placeOf R = pl := ⟨_, rfl⟩
  rw [hpl]
  obtain ⟨A, c, rfl, hc1, hc2, hlen, -, hA⟩ := hD
  obtain ⟨n, hn⟩ : ∃ n, defs.length = n := ⟨_, rfl⟩
  rw [hn] at hlen hc1 ⊢
  have HPL := Aside0.mk hpl
  have HR := Aside0.mk hR
  have HN := Aside0.mk hn
  have HA := Aside0.mk hA
  have HB := Aside0.mk hb
  clear hpl hR hA hb hn
  go_enter Tryz.func105, Tryz.ntmps105
  go_wp2_with fail
  go_loopg [8] n (fun kq v8 W => ∃ i : Nat, v8 = .int .i64 i ∧ Aside0 (i ≤ n ∧ kq = n - i ∧ Lx.defFrom nl (defs.drop i) i = R) ∧ Aside0 (w.grownBy W none))
  case atStart => exact ⟨0, rfl, ⟨by omega, rfl, HR.out⟩, ⟨World.grownBy.refl _ _⟩⟩
  case round =>
    obtain ⟨i, rfl, HI, HW⟩ := hrel
    have hi := HI.out.1
    by_cases hlt : i < n
    · obtain ⟨d, hd⟩ : ∃ d, defs[i]? = some d := ⟨_, List.getElem?_eq_getElem (by have := HN.out; omega)⟩
      have hne : defs ≠ [] := fun e => by rw [e] at hd; simp at hd
      obtain ⟨g, o, rfl, hgl, hat⟩ := HA.out.resolve_left hne
      obtain ⟨a0, a1⟩ := hat i d hd
      have a0 := HW.out.cell a0 (by simp)
      have a1 := HW.out.cell a1 (by simp)
      have hff := Lx.defFrom_at nl defs i d i hd
      rw [HI.out.2.2] at hff
      have g2 := (HW.out.block b (blk_lt HB.out) (by simp)).trans HB.out
      have g3 : wr.cell? ⟨b, 0, none⟩ = some (.string name) := by rw [blk_cell g2]; rfl
      have hbl := blk_lt g2
      obtain ⟨f, hf⟩ : ∃ f, (d.1.toList == nl) = f := ⟨_, rfl⟩
      rw [hf] at hff
      have HFF := Aside0.mk hff
      clear hff g2 hd hat hgl hne
      cases f
      · go_wp2_with go_in
        go_roundg (n - (i + 1))
        case measure => have := HI.out; omega
        case rel =>
          refine ⟨i + 1, by go_num, ⟨by omega, rfl, ?_⟩, ⟨grown_trans HW.out (World.grownBy_alloc _ _ _)⟩⟩
          exact HFF.out.symm
      · go_wp2_with go_in
        go_ret
        rw [← HPL.out, HFF.out]
        exact ⟨rfl, grown_trans HW.out (World.grownBy_alloc _ _ _)⟩
    · obtain rfl : i = n := by omega
      have hff := HI.out.2.2
      have hnone : defs.drop i = [] := List.drop_eq_nil_of_le (by have := HN.out; omega)
      rw [hnone] at hff
      have HFF := Aside0.mk hff
      clear hff hnone
      go_wp2_with fail
      go_ret
      rw [← HPL.out, ← HFF.out]
      exact ⟨rfl, HW.out⟩
set_option maxRecDepth 100000 in
theorem value_calls (w : World) (dv : Value) (defs : List (ByteArray × ByteArray)) (name : ByteArray) (hD : Dfs w dv defs) (hE : Errs w) :
    Calls Tryz.prog 91 #[dv, .string name] w fun e w' => e = .returned (.tuple #[.int .i64 (Lx.valOf defs name).1, .bool (Lx.valOf defs name).2]) ∧ w.grownBy w' none := by
  have hb := blk_new w (.cells #[.string name] 9)
  have hB1 : Below w.heap.size w (w.alloc (.cells #[.string name] 9)) := (Below.refl _ _).alloc (Nat.le_refl _) _
  have hF := findDef_calls _ dv defs name _ rfl w.heap.size (hD.below hB1) hb
  obtain ⟨R, hR⟩ : ∃ R, Lx.defFrom name.toList defs 0 = R := ⟨_, rfl⟩
  rw [hR] at hF
  obtain ⟨V, hV⟩ : ∃ V, Lx.valOf defs name = V := ⟨_, rfl⟩
  rw [hV]
  unfold Lx.valOf at hV
  rw [hR] at hV
  have HF := Aside0.mk hF
  obtain ⟨A, c, rfl, hc1, hc2, hlen, hsz, hA⟩ := hD
  have HE := Aside0.mk hE
  cases R with
  | none =>
    dsimp only at hV
    subst hV
    clear hF hB1 hb hR hA hE hsz
    go_enter Tryz.func91, Tryz.ntmps91
    go_wp2_with (go_at_call 105; (refine HF.out.mono ?_); rintro e w' ⟨rfl, hg⟩; have HG := Aside0.mk hg; clear hg; unfold placeOf)
    go_ret2
    exact ⟨rfl, grown_trans (World.grownBy_alloc _ _ _) HG.out⟩
  | some j =>
    have hj := (Lx.defFrom_lt _ _ _ _ hR).2
    obtain ⟨d, hd⟩ : ∃ d, defs[j]? = some d := ⟨_, List.getElem?_eq_getElem (by omega)⟩
    dsimp only at hV
    rw [hd] at hV
    dsimp only at hV
    subst hV
    have hne : defs ≠ [] := fun e => by rw [e] at hd; simp at hd
    obtain ⟨g, o, rfl, hgl, hat⟩ := hA.resolve_left hne
    obtain ⟨a0, a1⟩ := hat j d hd
    have hds := hsz d (List.mem_iff_getElem?.2 ⟨j, hd⟩)
    obtain ⟨n, hn⟩ : ∃ n, defs.length = n := ⟨_, rfl⟩
    rw [hn] at hlen hc1 hj HF ⊢
    have hj2 : j < n := by omega
    obtain ⟨vx, hvx⟩ : ∃ vx, Lx.worth d.2 = vx := ⟨_, rfl⟩
    rw [hvx]
    unfold Lx.worth at hvx
    have HVX := Aside0.mk hvx
    clear hF hB1 hb hR hE hsz hne hat hd hn a0 hvx hA
    rcases hp : Lib.parseIntB 64 d.2.data.toList with v | _ | _
    ·
      have HP := Aside0.mk hp
      clear hp
      go_enter Tryz.func91, Tryz.ntmps91
      go_wp2_with (first | (go_at_call 105; (refine HF.out.mono ?_); rintro e w' ⟨rfl, hg⟩; have a2 := hg.cell ((World.grownBy_alloc w (.cells #[.string name] 9) none).cell a1 (by simp)) (by simp); have HG := Aside0.mk hg; clear hg; unfold placeOf) | (go_at_call 107; (refine (Tryz.strconv_ParseInt_10_at64_ok d.2 (by omega) v HP.out _).mono ?_); rintro e w2 ⟨rfl, hw2⟩; have HW2 := Aside0.mk hw2; clear hw2))
      go_ret2
      have hv : vx = v := by have h9 := HVX.out; rw [HP.out] at h9; exact h9.symm
      rw [hv]
      refine ⟨rfl, grown_trans (grown_trans (World.grownBy_alloc _ _ _) HG.out) ?_⟩
      rcases HW2.out with rfl | ⟨tt, rfl⟩
      · exact World.grownBy.refl _ _
      · exact grown_below (World.grownBy.refl _ _) (Lib.bytesWorld_below _ _ _)
    ·
      have HP := Aside0.mk hp
      clear hp
      go_enter Tryz.func91, Tryz.ntmps91
      go_wp2_with (first | (go_at_call 105; (refine HF.out.mono ?_); rintro e w' ⟨rfl, hg⟩; have a2 := hg.cell ((World.grownBy_alloc w (.cells #[.string name] 9) none).cell a1 (by simp)) (by simp); have hg2 := grown_trans (World.grownBy_alloc w (.cells #[.string name] 9) none) hg; obtain ⟨-, ⟨e1, h1, h2⟩, -⟩ := HE.out.grown hg2; have H1 := Aside0.mk h1; have H2 := Aside0.mk h2; have HG := Aside0.mk hg2; clear hg hg2 h1 h2; unfold placeOf) | (go_at_call 107; (refine (Tryz.strconv_ParseInt_10_at64_syntax d.2 (by omega) HP.out e1 _ H1.out H2.out).mono ?_); rintro e w2 ⟨Nn, rfl, -, -, hw2⟩; have HW2 := Aside0.mk hw2; clear hw2))
      go_ret2
      have hv : vx = 0 := by have h9 := HVX.out; rw [HP.out] at h9; exact h9.symm
      rw [hv]
      exact ⟨rfl, grown_below HG.out HW2.out⟩
    ·
      have HP := Aside0.mk hp
      clear hp
      go_enter Tryz.func91, Tryz.ntmps91
      go_wp2_with (first | (go_at_call 105; (refine HF.out.mono ?_); rintro e w' ⟨rfl, hg⟩; have a2 := hg.cell ((World.grownBy_alloc w (.cells #[.string name] 9) none).cell a1 (by simp)) (by simp); have hg2 := grown_trans (World.grownBy_alloc w (.cells #[.string name] 9) none) hg; obtain ⟨-, -, e1, h1, h2⟩ := HE.out.grown hg2; have H1 := Aside0.mk h1; have H2 := Aside0.mk h2; have HG := Aside0.mk hg2; clear hg hg2 h1 h2; unfold placeOf) | (go_at_call 107; (refine (Tryz.strconv_ParseInt_10_at64_range d.2 (by omega) HP.out e1 _ H1.out H2.out).mono ?_); rintro e w2 ⟨Nn, rfl, -, -, hw2⟩; have HW2 := Aside0.mk hw2; clear hw2))
      go_ret2
      have hv : vx = 0 := by have h9 := HVX.out; rw [HP.out] at h9; exact h9.symm
      rw [hv]
      exact ⟨rfl, grown_below HG.out HW2.out⟩
end Go.Proofs.YtjnafjgonoficaaGreatDoor
namespace Go.Proofs.YtjnafjgonoficaaGreatDoor
open Go.RowKit Go.Proofs.YtjnafjgonoficaaGreatDoorW.PrintWords
set_option linter.unusedVariables false
set_option linter.unusedSimpArgs false
theorem bit_calls (b : Bool) (w : World) : Calls Tryz.prog 69 #[.bool b] w fun e w' => e = .returned (.int .i64 (Lx.bit b)) ∧ w = w' := by
  cases b
  all_goals
    go_enter Tryz.func69, Tryz.ntmps69
    go_wp2_with fail
    go_ret
    exact ⟨rfl, rfl⟩
theorem isName_calls (t : Lx.Tok) (w : World) : Calls Tryz.prog 89 #[tokV t] w fun e w' => e = .returned (.bool (t.k == 1)) ∧ w.grownBy w' none := by
  unfold tokV
  go_enter Tryz.func89, Tryz.ntmps89
  go_wp2_with fail
  go_ret
  exact ⟨rfl, World.grownBy_alloc _ _ _⟩
theorem op2_calls (a b : Int) (w : World) : Calls Tryz.prog 71 #[.int .i64 a, .int .i64 b] w fun e w' => e = .returned (.int .i64 (Lx.bit (a == b))) ∧ w = w' := by
  go_enter Tryz.func71, Tryz.ntmps71
  go_wp2_with (go_at_call 69; (with_reducible refine (bit_calls _ _).mono ?_); rintro e w' ⟨rfl, rfl⟩)
  go_ret
  exact ⟨rfl, rfl⟩
theorem op3_calls (a b : Int) (w : World) : Calls Tryz.prog 72 #[.int .i64 a, .int .i64 b] w fun e w' => e = .returned (.int .i64 (Lx.bit (a != b))) ∧ w = w' := by
  go_enter Tryz.func72, Tryz.ntmps72
  go_wp2_with (go_at_call 69; (with_reducible refine (bit_calls _ _).mono ?_); rintro e w' ⟨rfl, rfl⟩)
  go_ret
  exact ⟨rfl, rfl⟩
theorem op4_calls (a b : Int) (w : World) : Calls Tryz.prog 73 #[.int .i64 a, .int .i64 b] w fun e w' => e = .returned (.int .i64 (Lx.bit (decide (a < b)))) ∧ w = w' := by
  go_enter Tryz.func73, Tryz.ntmps73
  go_wp2_with (go_at_call 69; (with_reducible refine (bit_calls _ _).mono ?_); rintro e w' ⟨rfl, rfl⟩)
  go_ret
  exact ⟨rfl, rfl⟩
theorem op5_calls (a b : Int) (w : World) : Calls Tryz.prog 74 #[.int .i64 a, .int .i64 b] w fun e w' => e = .returned (.int .i64 (Lx.bit (decide (a ≤ b)))) ∧ w = w' := by
  go_enter Tryz.func74, Tryz.ntmps74
  go_wp2_with (go_at_call 69; (with_reducible refine (bit_calls _ _).mono ?_); rintro e w' ⟨rfl, rfl⟩)
  go_ret
  exact ⟨rfl, rfl⟩
theorem op6_calls (a b : Int) (w : World) : Calls Tryz.prog 75 #[.int .i64 a, .int .i64 b] w fun e w' => e = .returned (.int .i64 (Lx.bit (decide (b < a)))) ∧ w = w' := by
  go_enter Tryz.func75, Tryz.ntmps75
  go_wp2_with (go_at_call 69; (with_reducible refine (bit_calls _ _).mono ?_); rintro e w' ⟨rfl, rfl⟩)
  go_ret
  exact ⟨rfl, rfl⟩
theorem op7_calls (a b : Int) (w : World) : Calls Tryz.prog 76 #[.int .i64 a, .int .i64 b] w fun e w' => e = .returned (.int .i64 (Lx.bit (decide (b ≤ a)))) ∧ w = w' := by
  go_enter Tryz.func76, Tryz.ntmps76
  go_wp2_with (go_at_call 69; (with_reducible refine (bit_calls _ _).mono ?_); rintro e w' ⟨rfl, rfl⟩)
  go_ret
  exact ⟨rfl, rfl⟩
theorem op8_calls (a b : Int) (w : World) : Calls Tryz.prog 77 #[.int .i64 a, .int .i64 b] w fun e w' => e = .returned (.int .i64 (Lx.w64 (a + b))) ∧ w = w' := by
  unfold Lx.w64
  go_enter Tryz.func77, Tryz.ntmps77
  go_wp2_with (go_at_call 69; (with_reducible refine (bit_calls _ _).mono ?_); rintro e w' ⟨rfl, rfl⟩)
  go_ret
  exact ⟨rfl, rfl⟩
theorem op9_calls (a b : Int) (w : World) : Calls Tryz.prog 78 #[.int .i64 a, .int .i64 b] w fun e w' => e = .returned (.int .i64 (Lx.w64 (a - b))) ∧ w = w' := by
  unfold Lx.w64
  go_enter Tryz.func78, Tryz.ntmps78
  go_wp2_with (go_at_call 69; (with_reducible refine (bit_calls _ _).mono ?_); rintro e w' ⟨rfl, rfl⟩)
  go_ret
  exact ⟨rfl, rfl⟩
theorem op10_calls (a b : Int) (w : World) : Calls Tryz.prog 79 #[.int .i64 a, .int .i64 b] w fun e w' => e = .returned (.int .i64 (Lx.w64 (a * b))) ∧ w = w' := by
  unfold Lx.w64
  go_enter Tryz.func79, Tryz.ntmps79
  go_wp2_with (go_at_call 69; (with_reducible refine (bit_calls _ _).mono ?_); rintro e w' ⟨rfl, rfl⟩)
  go_ret
  exact ⟨rfl, rfl⟩
theorem op0_calls (a b : Int) (w : World) : Calls Tryz.prog 68 #[.int .i64 a, .int .i64 b] w fun e w' => e = .returned (.int .i64 (Lx.bit (a != 0 || b != 0))) ∧ w = w' := by
  cases ha : (a != 0) <;> cases hb : (b != 0)
  all_goals
    go_enter Tryz.func68, Tryz.ntmps68
    go_wp2_with (go_at_call 69; (with_reducible refine (bit_calls _ _).mono ?_); rintro e w' ⟨rfl, rfl⟩)
    go_ret
    exact ⟨rfl, rfl⟩
theorem op1_calls (a b : Int) (w : World) : Calls Tryz.prog 70 #[.int .i64 a, .int .i64 b] w fun e w' => e = .returned (.int .i64 (Lx.bit (a != 0 && b != 0))) ∧ w = w' := by
  cases ha : (a != 0) <;> cases hb : (b != 0)
  all_goals
    go_enter Tryz.func70, Tryz.ntmps70
    go_wp2_with (go_at_call 69; (with_reducible refine (bit_calls _ _).mono ?_); rintro e w' ⟨rfl, rfl⟩)
    go_ret
    exact ⟨rfl, rfl⟩
theorem quo_calls (a b : Int) (w : World) : Calls Tryz.prog 81 #[.int .i64 a, .int .i64 b] w fun e w' => e = .returned (.int .i64 (Lx.quo a b)) ∧ w = w' := by
  unfold Lx.quo Lx.w64
  by_cases hb : b = 0
  · subst hb
    go_enter Tryz.func81, Tryz.ntmps81
    go_wp2_with fail
    go_ret
    exact ⟨rfl, rfl⟩
  · rw [if_neg hb]
    have hb2 : (b == 0) = false := beq_eq_false_iff_ne.mpr hb
    go_enter Tryz.func81, Tryz.ntmps81
    go_wp2_with fail
    go_ret
    exact ⟨rfl, rfl⟩
theorem op11_calls (a b : Int) (w : World) : Calls Tryz.prog 80 #[.int .i64 a, .int .i64 b] w fun e w' => e = .returned (.int .i64 (Lx.quo a b)) ∧ w = w' := by
  obtain ⟨q, hq⟩ : ∃ q, Lx.quo a b = q := ⟨_, rfl⟩
  have H := Aside0.mk (quo_calls a b w)
  rw [hq] at H ⊢
  clear hq
  go_enter Tryz.func80, Tryz.ntmps80
  go_wp2_with (go_at_call 81; (refine H.out.mono ?_); rintro e w' ⟨rfl, rfl⟩)
  go_ret
  exact ⟨rfl, rfl⟩
theorem op12_calls (a b : Int) (w : World) : Calls Tryz.prog 82 #[.int .i64 a, .int .i64 b] w fun e w' => e = .returned (.int .i64 (Lx.w64 (Lx.w64 (a - Lx.w64 (Lx.quo a b * b)) - Lx.w64 (a * Lx.bit (b == 0))))) ∧ w = w' := by
  obtain ⟨q, hq⟩ : ∃ q, Lx.quo a b = q := ⟨_, rfl⟩
  obtain ⟨z, hz⟩ : ∃ z, Lx.bit (b == 0) = z := ⟨_, rfl⟩
  have H := Aside0.mk (quo_calls a b w)
  have HB := Aside0.mk (bit_calls (b == 0) w)
  rw [hq] at H
  rw [hz] at HB
  rw [hq, hz]
  unfold Lx.w64
  clear hq hz
  go_enter Tryz.func82, Tryz.ntmps82
  go_wp2_with (first | (go_at_call 81; (refine H.out.mono ?_); rintro e w' ⟨rfl, rfl⟩) | (go_at_call 69; (refine HB.out.mono ?_); rintro e w' ⟨rfl, rfl⟩))
  go_ret
  exact ⟨rfl, rfl⟩
end Go.Proofs.YtjnafjgonoficaaGreatDoor
namespace Go.Proofs.YtjnafjgonoficaaGreatDoor
open Go.RowKit Go.Proofs.YtjnafjgonoficaaGreatDoorW.PrintWords
set_option linter.unusedVariables false
set_option linter.unusedSimpArgs false
/-- Something is known of each word; and they are not too many. -/
def AllP (P : Lx.Tok → Prop) (l : List Lx.Tok) : Prop := (∀ t ∈ l, P t) ∧ l.length ≤ 100000
theorem AllP.tail {P : Lx.Tok → Prop} {l : List Lx.Tok} (h : AllP P l) : AllP P l.tail := ⟨fun t ht => h.1 t (List.mem_of_mem_tail ht), by have := h.2; rw [List.length_tail]; omega⟩
theorem AllP.rest {P : Lx.Tok → Prop} {t : Lx.Tok} {r : List Lx.Tok} (h : AllP P (t :: r)) : AllP P r := h.tail
/-- The evaluator in memory; and something is known of each word. -/
def EVP (P : Lx.Tok → Prop) (w0 w : World) (dv ov : Value) (S : Lx.ES) : Prop := EV w0 w dv ov S ∧ AllP P S.l
/-- What numbers and names come to, in whatever world behind the first one. -/
structure EnvC (num val : ByteArray → Int × Bool) (P : Lx.Tok → Prop) (w0 : World) (dv : Value) (og : Nat) : Prop where
  ops : OpsAt w0 og
  num : ∀ t, P t → t.k = 3 → ∀ w, Below w0.heap.size w0 w → Calls Tryz.prog 138 #[.string t.t] w fun e w' => e = .returned (.tuple #[.int .i64 (num t.t).1, .bool (num t.t).2]) ∧ w.grownBy w' none
  val : ∀ t, P t → t.k = 1 → ∀ w, Below w0.heap.size w0 w → Calls Tryz.prog 91 #[dv, .string t.t] w fun e w' => e = .returned (.tuple #[.int .i64 (val t.t).1, .bool (val t.t).2]) ∧ w.grownBy w' none
theorem EV.opened {w0 w : World} {dv ov : Value} {S : Lx.ES} {t : Lx.Tok} {r : List Lx.Tok} (h : EV w0 w dv ov S) (hl : S.l = t :: r) :
    ∃ g o c, w.heap[w0.heap.size]? = some (.cells #[.slice (some ⟨g, o, none⟩) (r.length + 1) c, dv, ov, .bool S.bad] 95 (0, 0)) ∧ r.length + 1 ≤ c ∧ c ≤ maxLen ∧ g < w0.heap.size ∧ w.cell? ⟨g, o, none⟩ = some (.int .i64 t.k) ∧ w.cell? ⟨g, o + 1, none⟩ = some (.string t.b) ∧ w.cell? ⟨g, o + 2, none⟩ = some (.string t.t) ∧ w.cell? ⟨g, o + 3, none⟩ = some (.int .i64 t.a) ∧
      Tks w0 (.slice (some ⟨g, o, none⟩) (r.length + 1) c) (t :: r) := by
  obtain ⟨lv, h1, h2, h3⟩ := h
  rw [hl] at h2
  have h2' := h2
  obtain ⟨A, c, rfl, hc1, hc2, hA⟩ := h2
  obtain ⟨g, o, rfl, hta, hgl⟩ := hA.resolve_left (by simp)
  obtain ⟨a0, a1, a2, a3⟩ := (hta.below h3 hgl) 0 t rfl
  rw [Nat.zero_mul, Nat.add_zero] at a0 a1 a2 a3
  exact ⟨g, o, c, h1, hc1, hc2, hgl, a0, a1, a2, a3, h2'⟩
theorem EV.closed {w0 w : World} {dv ov : Value} {S : Lx.ES} (h : EV w0 w dv ov S) (hl : S.l = []) : ∃ A c, w.heap[w0.heap.size]? = some (.cells #[.slice A 0 c, dv, ov, .bool S.bad] 95 (0, 0)) := by
  obtain ⟨lv, h1, h2, h3⟩ := h
  rw [hl] at h2
  obtain ⟨A, c, rfl, hc1, hc2, hA⟩ := h2
  exact ⟨A, c, h1⟩
theorem EV.behind {w0 w : World} {dv ov : Value} {S : Lx.ES} (h : EV w0 w dv ov S) : Below w0.heap.size w0 w := by obtain ⟨_, _, _, h3⟩ := h; exact h3
/-- One word is taken by hand. -/
theorem EV.taken {w0 w : World} {dv ov lv lv' : Value} {l r : List Lx.Tok} {bad : Bool} (h : w.heap[w0.heap.size]? = some (.cells #[lv, dv, ov, .bool bad] 95 (0, 0))) (hb : Below w0.heap.size w0 w) (hT : Tks w0 lv' r) :
    EV w0 (w.setCell ⟨w0.heap.size, 0, none⟩ lv') dv ov ⟨r, bad⟩ ∧ w.grownBy (w.setCell ⟨w0.heap.size, 0, none⟩ lv') (some w0.heap.size) := by
  have hg : w.grownBy (w.setCell ⟨w0.heap.size, 0, none⟩ lv') (some w0.heap.size) := grown_set (World.grownBy.refl _ _) _ _
  refine ⟨⟨lv', blk_set h 0 _, hT, hb.grown hg (by have := blk_lt h; omega) (fun k hk => by cases hk; exact Nat.le_refl _)⟩, hg⟩
theorem Tks.none {w : World} {A : Option Addr} : Tks w (.slice A 0 0) [] := ⟨A, 0, rfl, Nat.le_refl _, Nat.zero_le _, .inl rfl⟩
theorem is_callsP {P : Lx.Tok → Prop} (w0 w : World) (dv ov : Value) (S : Lx.ES) (gs : List UInt8) (gb : ByteArray) (hgb : gb.toList = gs) (h : EVP P w0 w dv ov S) :
    Calls Tryz.prog 86 #[.pointer (some ⟨w0.heap.size, 0, none⟩), .string gb] w fun e w' => e = .returned (.bool (Lx.isS S gs)) ∧ EVP P w0 w' dv ov (if Lx.isS S gs = true then S.tl else S) ∧ w.grownBy w' (some w0.heap.size) := by
  refine (is_calls w0 w dv ov S gs gb hgb h.1).mono ?_
  rintro e w' ⟨h1, h2, h3⟩
  refine ⟨h1, ⟨h2, ?_⟩, h3⟩
  split
  · exact h.2.tail
  · exact h.2
theorem fail_callsP {P : Lx.Tok → Prop} (w0 w : World) (dv ov : Value) (S : Lx.ES) (h : EVP P w0 w dv ov S) :
    Calls Tryz.prog 137 #[.pointer (some ⟨w0.heap.size, 0, none⟩)] w fun e w' => e = .returned (.int .i64 0) ∧ EVP P w0 w' dv ov S.fail ∧ w.grownBy w' (some w0.heap.size) := by
  refine (fail_calls w0 w dv ov S h.1).mono ?_
  rintro e w' ⟨h1, h2, h3⟩
  exact ⟨h1, ⟨h2, h.2⟩, h3⟩
end Go.Proofs.YtjnafjgonoficaaGreatDoor
namespace Go.Proofs.YtjnafjgonoficaaGreatDoor
open Go.RowKit Go.Proofs.YtjnafjgonoficaaGreatDoorW.PrintWords
set_option linter.unusedVariables false
set_option linter.unusedSimpArgs false
def ovOf (og : Nat) : Value := .slice (some ⟨og, 0, none⟩) 13 13
def BinC (num val : ByteArray → Int × Bool) (P : Lx.Tok → Prop) (w0 : World) (dv : Value) (og m : Nat) : Prop := ∀ (w : World) (lv : Nat) (S T : Lx.ES) (v : Int), 1 ≤ lv → lv ≤ 7 → Lx.binF num val m lv S = some (v, T) → EVP P w0 w dv (ovOf og) S →
  Calls Tryz.prog 51 #[.pointer (some ⟨w0.heap.size, 0, none⟩), .int .i64 lv] w fun e w' => e = .returned (.int .i64 v) ∧ EVP P w0 w' dv (ovOf og) T ∧ w.grownBy w' (some w0.heap.size)
def OneC (num val : ByteArray → Int × Bool) (P : Lx.Tok → Prop) (w0 : World) (dv : Value) (og m : Nat) : Prop := ∀ (w : World) (S T : Lx.ES) (v : Int), Lx.oneF num val m S = some (v, T) → EVP P w0 w dv (ovOf og) S →
  Calls Tryz.prog 83 #[.pointer (some ⟨w0.heap.size, 0, none⟩)] w fun e w' => e = .returned (.int .i64 v) ∧ EVP P w0 w' dv (ovOf og) T ∧ w.grownBy w' (some w0.heap.size)
def OperC (num val : ByteArray → Int × Bool) (P : Lx.Tok → Prop) (w0 : World) (dv : Value) (og m : Nat) : Prop := ∀ (w : World) (S T : Lx.ES) (v : Int), Lx.operF num val m S = some (v, T) → EVP P w0 w dv (ovOf og) S →
  Calls Tryz.prog 100 #[.pointer (some ⟨w0.heap.size, 0, none⟩)] w fun e w' => e = .returned (.int .i64 v) ∧ EVP P w0 w' dv (ovOf og) T ∧ w.grownBy w' (some w0.heap.size)
theorem op_calls (j k : Nat) (h : opFuncs[j]? = some k) (a b : Int) (w : World) : Calls Tryz.prog k #[.int .i64 a, .int .i64 b] w fun e w' => e = .returned (.int .i64 (Lx.opDo j a b)) ∧ w = w' := by
  have hj : j < 13 := (List.getElem?_eq_some_iff.1 h).1
  match j, hj with
  | 0, _ => cases h; exact op0_calls a b w
  | 1, _ => cases h; exact op1_calls a b w
  | 2, _ => cases h; exact op2_calls a b w
  | 3, _ => cases h; exact op3_calls a b w
  | 4, _ => cases h; exact op4_calls a b w
  | 5, _ => cases h; exact op5_calls a b w
  | 6, _ => cases h; exact op6_calls a b w
  | 7, _ => cases h; exact op7_calls a b w
  | 8, _ => cases h; exact op8_calls a b w
  | 9, _ => cases h; exact op9_calls a b w
  | 10, _ => cases h; exact op10_calls a b w
  | 11, _ => cases h; exact op11_calls a b w
  | 12, _ => cases h; exact op12_calls a b w
theorem enters_op (k : Nat) (h : k ∈ opFuncs) : ∀ (args : Array Value) (w : World), (callFunc k args).run Tryz.prog w = .ok (.enter k args) w := by
  simp only [opFuncs, List.mem_cons, List.not_mem_nil, or_false] at h
  rcases h with rfl | rfl | rfl | rfl | rfl | rfl | rfl | rfl | rfl | rfl | rfl | rfl | rfl
  all_goals
    intro args w
    kernel_rfl
theorem findOp_lt (lv : Nat) (S : Lx.ES) : ∀ (l : List (List UInt8 × Nat)) (j k : Nat), Lx.findFrom lv S l j = some k → j ≤ k ∧ k < j + l.length
  | [], j, k, h => by simp [Lx.findFrom] at h
  | o :: r, j, k, h => by
    unfold Lx.findFrom at h
    split at h
    · cases h; simp
    · have := findOp_lt lv S r (j + 1) k h
      simp only [List.length_cons]; omega
set_option maxRecDepth 100000 in
set_option maxHeartbeats 8000000 in
theorem bin_step {num val : ByteArray → Int × Bool} {P : Lx.Tok → Prop} {w0 : World} {dv : Value} {og : Nat} (hC : EnvC num val P w0 dv og) (m : Nat) (IH : ∀ k, k < m → BinC num val P w0 dv og k) (hO : ∀ k, k < m → OneC num val P w0 dv og k) : BinC num val P w0 dv og m := by
  intro w lv S T v hl1 hl7 hf h
  cases m with
  | zero => unfold Lx.binF at hf; cases hf
  | succ m =>
  obtain ⟨x, hx⟩ : ∃ x, w0.heap.size = x := ⟨_, rfl⟩
  have hEVP := h
  obtain ⟨⟨lv0, hx1, -, hB⟩, -⟩ := h
  have hxl := blk_lt hx1
  rw [hx] at hxl
  have hA1 := World.grownBy_alloc w (.cells #[.pointer (some ⟨w0.heap.size, 0, none⟩)] 91) none
  have hA2 := World.grownBy_alloc (w.alloc (.cells #[.pointer (some ⟨w0.heap.size, 0, none⟩)] 91)) (.cells #[.int .i64 lv] 3) none
  have hEV2 : EVP P w0 ((w.alloc (.cells #[.pointer (some ⟨w0.heap.size, 0, none⟩)] 91)).alloc (.cells #[.int .i64 lv] 3)) dv (ovOf og) S := ⟨(hEVP.1.grown hA1).grown hA2, hEVP.2⟩
  have HEV2 := Aside0.mk hEV2
  have HC := Aside0.mk hC
  have HIH := Aside0.mk IH
  have HOO := Aside0.mk hO
  have HX := Aside0.mk hx
  clear hEVP hx1 hB hEV2 hC IH hO hA1 hA2
  unfold Lx.binF at hf
  by_cases h7 : lv = 7
  · subst h7
    rw [if_pos rfl] at hf
    have H1 := Aside0.mk (HOO.out m (by omega) _ S T v hf HEV2.out)
    rw [hx] at H1 ⊢
    clear hf hx
    go_enter Tryz.func51, Tryz.ntmps51
    go_wp2_with (go_at_call 83; (refine H1.out.mono ?_); rintro e w' ⟨rfl, hev, hg⟩; have HE := Aside0.mk hev; have HG := Aside0.mk hg; clear hev hg)
    go_ret
    exact ⟨rfl, HE.out, grown_trans ((World.grownBy_alloc _ _ _).trans (World.grownBy_alloc _ _ _)) HG.out⟩
  · rw [if_neg h7] at hf
    have h72 : ((lv : Int) == 7) = false := by rw [beq_eq_false_iff_ne]; omega
    cases hb : Lx.binF num val m (lv + 1) S with
    | none => rw [hb] at hf; cases hf
    | some r =>
    obtain ⟨v1, S1⟩ := r
    rw [hb] at hf
    dsimp only at hf
    have H1 := Aside0.mk (HIH.out m (by omega) _ (lv + 1) S S1 v1 (by omega) (by omega) hb HEV2.out)
    have HF := Aside0.mk hf
    have hwl : IntKind.i64.wrap ((lv : Int) + 1) = (lv : Int) + 1 := IntWalk.i64_in _ (by omega)
    have hcast : ((lv + 1 : Nat) : Int) = (lv : Int) + 1 := by omega
    rw [hcast] at H1
    rw [hx] at H1 ⊢
    clear hf hb hx hcast
    go_enter Tryz.func51, Tryz.ntmps51
    go_wp2_with (go_at_call 51; (refine H1.out.mono ?_); rintro e w' ⟨rfl, hev, hg⟩; have HE := Aside0.mk hev; have HG := Aside0.mk hg; clear hev hg)
    obtain ⟨w1, rfl⟩ : ∃ w1, w1 = w' := ⟨_, rfl⟩
    have hxn2 : w.heap.size ≠ x := by omega
    have hxn3 : w.heap.size + 1 ≠ x := by omega
    have hb2 : w1.heap[w.heap.size]? = some (.cells #[.pointer (some ⟨x, 0, none⟩)] 91 (0, 0)) := by
      exact (HG.out.block _ (by simp; omega) (by simpa using fun e => hxn2 e)).trans (blk_alloc (blk_new w _) _)
    have hb3 : w1.heap[w.heap.size + 1]? = some (.cells #[.int .i64 lv] 3 (0, 0)) :=
      (HG.out.block _ (by simp) (by simpa using fun e => hxn3 e)).trans (blk_new_at _ _ _ (by simp))
    have HB2 := Aside0.mk hb2
    have HB3 := Aside0.mk hb3
    clear hb2 hb3 h72
    go_loopg [5] m (fun kq v5 W => ∃ (k : Nat) (u : Int) (U : Lx.ES), v5 = .int .i64 u ∧ Aside0 (k ≤ m ∧ kq = k ∧ Lx.loopF num val k lv u U = some (v, T)) ∧ Aside0 (EVP P w0 W dv (ovOf og) U) ∧ Aside0 (w1.grownBy W (some x)))
    case atStart => exact ⟨m, v1, S1, rfl, ⟨Nat.le_refl _, rfl, HF.out⟩, HE, ⟨World.grownBy.refl _ _⟩⟩
    case round =>
      obtain ⟨k, u, U, rfl, HK, HU, HW⟩ := hrel
      have hf := HK.out.2.2
      have hk := HK.out.1
      cases k with
      | zero => unfold Lx.loopF at hf; cases hf
      | succ k =>
      unfold Lx.loopF at hf
      have g2 := (HW.out.block _ (blk_lt HB2.out) (by simpa using fun e => hxn2 e)).trans HB2.out
      have g3 := (HW.out.block _ (blk_lt HB3.out) (by simpa using fun e => hxn3 e)).trans HB3.out
      have c2 : wr.cell? ⟨w.heap.size, 0, none⟩ = some (.pointer (some ⟨x, 0, none⟩)) := by rw [blk_cell g2]; rfl
      have c3 : wr.cell? ⟨w.heap.size + 1, 0, none⟩ = some (.int .i64 lv) := by rw [blk_cell g3]; rfl
      obtain ⟨lvx, hxb, -, hBe⟩ := HU.out.1
      rw [HX.out] at hxb
      have x2 : wr.cell? ⟨x, 2, none⟩ = some (.slice (some ⟨og, 0, none⟩) 13 13) := by rw [blk_cell hxb]; rfl
      have x3 : wr.cell? ⟨x, 3, none⟩ = some (.bool U.bad) := by rw [blk_cell hxb]; rfl
      have hfo := findOp_calls w0 wr dv og lv w.heap.size (w.heap.size + 1) U HC.out.ops HU.out.1 g3 (by rw [HX.out]; exact g2) (by rw [HX.out]; exact hxn2) (by rw [HX.out]; exact hxn3)
      rw [HX.out] at hfo
      have HGALL := Aside0.mk (show w.grownBy w1 (some x) from grown_trans ((World.grownBy_alloc _ _ _).trans (World.grownBy_alloc _ _ _)) HG.out)
      clear g2 g3 hxb
      cases hbad : U.bad
      · rw [hbad] at hf x3
        rw [if_neg Bool.false_ne_true] at hf
        cases hop : Lx.findOp lv U with
        | none =>
          rw [hop] at hf hfo
          dsimp only at hf
          cases hf
          have HFO := Aside0.mk hfo
          clear hfo hop hbad
          go_wp2_with (go_at_call 84; (refine HFO.out.mono ?_); rintro e w2 ⟨rfl, hev, hg⟩; have HE2 := Aside0.mk hev; have HG2 := Aside0.mk hg; clear hev hg; unfold placeOf)
          go_ret
          exact ⟨rfl, ⟨HE2.out, HU.out.2⟩, grown_trans HGALL.out (grown_trans HW.out HG2.out)⟩
        | some j =>
          rw [hop] at hf hfo
          dsimp only at hf
          cases hb : Lx.binF num val k (lv + 1) U.tl with
          | none => rw [hb] at hf; cases hf
          | some r =>
          obtain ⟨u1, T1⟩ := r
          rw [hb] at hf
          dsimp only at hf
          have hj13 : j < 13 := by have := (findOp_lt lv U Lx.ops 0 j hop).2; simpa [Lx.ops] using this
          have HBIN := Aside0.mk (show ∀ W, EVP P w0 W dv (ovOf og) U.tl → Calls Tryz.prog 51 #[.pointer (some ⟨x, 0, none⟩), .int .i64 ((lv : Int) + 1)] W fun e w' => e = .returned (.int .i64 u1) ∧ EVP P w0 w' dv (ovOf og) T1 ∧ W.grownBy w' (some x) from fun W hW => by
            have := HIH.out k (by omega) W (lv + 1) U.tl T1 u1 (by omega) (by omega) hb hW
            rw [HX.out] at this
            exact this)
          have HFO := Aside0.mk hfo
          have HFF := Aside0.mk hf
          have HTL := Aside0.mk (show AllP P U.tl.l from HU.out.2.tail)
          obtain ⟨o, ho⟩ : ∃ o, Lx.ops[j]? = some o := ⟨_, List.getElem?_eq_getElem hj13⟩
          have HO := Aside0.mk ho
          clear hfo hop hbad hb hf ho
          go_wp2_with (go_at_call 84; (refine HFO.out.mono ?_); rintro e w2 ⟨rfl, hev, hg⟩; have hbw2 := hev.behind; have hev1 := hev; obtain ⟨lv2, hxb2, -, -⟩ := hev1; rw [HX.out] at hxb2; have y2 : w2.cell? ⟨x, 2, none⟩ = some (.slice (some ⟨og, 0, none⟩) 13 13) := (by rw [blk_cell hxb2]; rfl); obtain ⟨-, -, kf, hkf, of2⟩ := (HC.out.ops.below hbw2).2 j o HO.out; have HKF := Aside0.mk hkf; have HE2 := Aside0.mk hev; have HG2 := Aside0.mk hg; have d2 := hg.cell c2 (by simpa using fun e => hxn2 e); have d3 := hg.cell c3 (by simpa using fun e => hxn3 e); clear hev hg hbw2 hxb2 hkf; unfold placeOf)
          have hev2 : EV w0 w2 dv (ovOf og) U.tl := HE2.out
          have HV2 := Aside0.mk hev2
          clear hev2
          have hj0 : (0 : Int) ≤ (j : Int) := by omega
          have hj1 : (j : Int) < 13 := by omega
          have hj2 : (j : Int) ≤ 13 := by omega
          have heg := enters_op kf (List.mem_of_getElem? HKF.out)
          go_region_held3 (fun (W : World) => W.cell? ⟨w.heap.size, 0, none⟩ = some (.pointer (some ⟨x, 0, none⟩)) ∧ W.cell? ⟨w.heap.size + 1, 0, none⟩ = some (.int .i64 lv) ∧ W.cell? ⟨x, 2, none⟩ = some (.slice (some ⟨og, 0, none⟩) 13 13) ∧ W.cell? ⟨og, j * 3 + 2, none⟩ = some (.func (.func kf) #[] #[])) (first | exact ⟨d2, d3, y2, of2⟩ | exact ⟨e2, e3, y3, of3⟩) (first | (go_at_call 51; (refine (HBIN.out _ ⟨HV2.out.grown (by repeat (first | exact World.grownBy.refl _ _ | apply grown_drew | apply grown_drewN)), HTL.out⟩).mono ?_); rintro e w3 ⟨rfl, hev, hg⟩; have hg3 : w2.grownBy w3 (some x) := ⟨hg.os, hg.tape, hg.output, hg.size, hg.block⟩; have hbw3 := hev.1.behind; have hev1 := hev.1; obtain ⟨lv3, hxb3, -, -⟩ := hev1; rw [HX.out] at hxb3; have y3 : w3.cell? ⟨x, 2, none⟩ = some (.slice (some ⟨og, 0, none⟩) 13 13) := (by rw [blk_cell hxb3]; rfl); obtain ⟨-, -, kf3, hkf3, of3⟩ := (HC.out.ops.below hbw3).2 j o HO.out; rw [HKF.out] at hkf3; cases hkf3; have e2 := hg3.cell d2 (by simpa using fun e => hxn2 e); have e3 := hg3.cell d3 (by simpa using fun e => hxn3 e); have HE3 := Aside0.mk hev; have HG3 := Aside0.mk hg3; clear hev hg hg3 hbw3 hxb3) | (refine (op_calls j _ HKF.out _ _ _).mono ?_; rintro e w4 ⟨rfl, rfl⟩))
          all_goals go_wp2_with fail
          all_goals go_roundg k
          case measure => have := HK.out; omega
          all_goals first
            | (have := HK.out; omega)
            | exact ⟨k, _, T1, rfl, ⟨by omega, rfl, HFF.out⟩, HE3, ⟨grown_trans HW.out (grown_trans HG2.out HG3.out)⟩⟩
      · rw [hbad] at hf x3
        rw [if_pos rfl] at hf
        cases hf
        clear hfo hbad
        go_wp2_with fail
        go_ret
        exact ⟨rfl, HU.out, grown_trans HGALL.out HW.out⟩
end Go.Proofs.YtjnafjgonoficaaGreatDoor
