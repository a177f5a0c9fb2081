/-
  The reference's operands. Conditions: the reader's block is its own; what numbers and names come to is known; what expressions come to is known at less fuel.
  The reference's levels, plainly: which sign of a level comes, what an operator does; what expressions come to lies in range. No program in sight but for the operators' contracts.
  The reference's levels. Conditions: the reader's block is its own; what signs and tighter levels come to is known.
  The reference's evaluator, whole: eval 52, Eval 26. Conditions: numbers and names come to what is said.
-/
import Derived.Test.YtjnafjgonoficaaGreatDoorK21
namespace Go.Proofs.YtjnafjgonoficaaGreatDoor
open Go.RowKit Go.Proofs.YtjnafjgonoficaaGreatDoorW.PrintWords
set_option linter.unusedVariables false
set_option linter.unusedSimpArgs false
/-- What the reference's reader leans on: its numbers, its names; the word 'defined' is a name. -/
structure EnvR (num val : ByteArray → Int × Bool) (P : Lx.Tok → Prop) (w0 : World) (A : Option Addr) (n c : Nat) (dv : Value) (L : List Lx.Tok) : Prop where
  num : ∀ t, P t → t.k = 3 → ∀ w, Below w0.heap.size w0 w → Calls Tryz.prog 169 #[.string t.t] w fun e w' => ∃ v', e = .returned (.tuple #[.int .i64 v', .bool (num t.t).2]) ∧ ((num t.t).2 = true → v' = (num t.t).1) ∧ w' = w
  val : ∀ (b : ByteArray) (S : Lx.ES) w, RC w0 w A n c dv L S → Calls Tryz.prog 92 #[.pointer (some ⟨w0.heap.size, 0, none⟩), .string b] w fun e w' => e = .returned (.tuple #[.int .i64 (val b).1, .bool (val b).2]) ∧ w' = w
  word : ∀ t ∈ L, P t
  name : ∀ t, P t → t.t.toList = [100, 101, 102, 105, 110, 101, 100] → t.k = 1
theorem RC.fail {w0 w w1 : World} {A : Option Addr} {n c : Nat} {dv : Value} {L : List Lx.Tok} {S : Lx.ES} {i : Nat} (h : RC w0 w A n c dv L S) (hi : i ≤ n) (hd : S.l = L.drop i) (hb : w1.heap[w0.heap.size]? = some (.cells #[.slice A n c, .int .i64 i, .bool true, dv] 124 (0, 0))) (hw : Below w0.heap.size w0 w1) : RC w0 w1 A n c dv L S.fail :=
  ⟨h.1, i, hi, hd, hb, hw⟩
theorem paren_yes {T1 T1' T : Lx.ES} {v1 v' v : Int} (hs : Same T1 T1' v1 v') (hb : Lx.isR T1' [41] = true) (hf : (if Lx.isS T1 [41] = true then some (v1, T1.tl) else some (0, T1.fail)) = some (v, T)) : Same T T1'.tl v v' := by
  unfold Lx.isR at hb
  rw [Bool.and_eq_true] at hb
  rcases hs with ⟨-, e2⟩ | ⟨e1, rfl, rfl⟩
  · rw [e2] at hb; cases hb.1
  · rw [if_pos hb.2] at hf
    cases hf
    exact .inr ⟨e1, rfl, rfl⟩
theorem paren_no {T1 T1' T : Lx.ES} {v1 v' v v2 : Int} (hs : Same T1 T1' v1 v') (hb : Lx.isR T1' [41] = false) (hf : (if Lx.isS T1 [41] = true then some (v1, T1.tl) else some (0, T1.fail)) = some (v, T)) : Same T T1'.fail v v2 := by
  refine .inl ⟨?_, rfl⟩
  unfold Lx.isR at hb
  rcases hs with ⟨e1, -⟩ | ⟨e1, rfl, rfl⟩
  · split at hf <;> cases hf
    · exact e1
    · rfl
  · rw [e1, Bool.not_false, Bool.true_and] at hb
    rw [hb] at hf
    cases hf
    rfl
theorem nil_at {i n : Nat} {L : List Lx.Tok} (hl : L.length = n) (hi : i ≤ n) (h : L.drop i = []) : i = n := by
  have := congrArg List.length h
  simp at this
  omega
theorem defined_bad {val : ByteArray → Int × Bool} {S U T : Lx.ES} {v : Int} {p : Bool} (h : Lx.definedE val S = (v, T)) (hp : Lx.isS S [40] = p) (hU : (if p = true then S.tl else S) = U) (hc : U.l = [] ∨ ∃ t r, U.l = t :: r ∧ t.k ≠ 1) : T.bad = true := by
  unfold Lx.definedE at h
  rw [hp, hU] at h
  dsimp only at h
  rcases hc with e | ⟨t, r, e, k⟩
  · rw [e] at h
    cases h; rfl
  · rw [e] at h
    dsimp only at h
    rw [if_neg k] at h
    cases h; rfl
theorem defined_val {val : ByteArray → Int × Bool} {S U T : Lx.ES} {v : Int} {p q : Bool} {t : Lx.Tok} {r : List Lx.Tok} (h : Lx.definedE val S = (v, T)) (hp : Lx.isS S [40] = p) (hU : (if p = true then S.tl else S) = U) (hl : U.l = t :: r) (hk : t.k = 1) (hb : U.bad = false) (hq : Lx.isR U.tl [41] = q) :
    (p = false → T = U.tl ∧ v = Lx.bit (val t.t).2) ∧ (p = true → q = true → T = U.tl.tl ∧ v = Lx.bit (val t.t).2) ∧ (p = true → q = false → T.bad = true) := by
  have e : U.tl = ⟨r, U.bad⟩ := by unfold Lx.ES.tl; rw [hl]; rfl
  unfold Lx.isR at hq
  rw [e] at hq
  rw [hb] at hq e
  have hq : Lx.isS ⟨r, false⟩ [41] = q := by rw [← hq]; rfl
  unfold Lx.definedE at h
  rw [hp, hU] at h
  dsimp only at h
  rw [hl] at h
  dsimp only at h
  rw [if_pos hk, hb, hq] at h
  rw [e]
  cases p <;> cases q <;> simp [Lx.ES.tl] at h ⊢ <;> (obtain ⟨rfl, rfl⟩ := h) <;> simp
theorem RC.mk {w0 w w1 : World} {A : Option Addr} {n c : Nat} {dv : Value} {L : List Lx.Tok} {S S' : Lx.ES} {i : Nat} (h : RC w0 w A n c dv L S) (hi : i ≤ n) (hd : S'.l = L.drop i) (hb : w1.heap[w0.heap.size]? = some (.cells #[.slice A n c, .int .i64 i, .bool S'.bad, dv] 124 (0, 0))) (hw : Below w0.heap.size w0 w1) : RC w0 w1 A n c dv L S' :=
  ⟨h.1, i, hi, hd, hb, hw⟩
theorem tl_drop {S : Lx.ES} {L : List Lx.Tok} {i : Nat} (h : S.l = L.drop i) : S.tl.l = L.drop (i + 1) := by
  unfold Lx.ES.tl
  rw [h]
  simp
set_option maxRecDepth 100000 in
set_option maxHeartbeats 8000000 in
theorem primary_step {num val : ByteArray → Int × Bool} {P : Lx.Tok → Prop} {w0 : World} {A : Option Addr} {n c : Nat} {dv : Value} {L : List Lx.Tok} (hn5 : n ≤ 100000) (hE : EnvR num val P w0 A n c dv L) (m : Nat) (IH : ∀ k, k < m → LvC num val w0 A n c dv L k) : PrC num val w0 A n c dv L m := by
  intro S T v w hf hb h
  cases m with
  | zero => unfold Lx.operF at hf; cases hf
  | succ m =>
  have hnl := h.len
  unfold Lx.operF at hf
  rw [if_neg (by rw [hb]; simp)] at hf
  have HR := Aside0.mk h
  have HE := Aside0.mk hE
  cases hl : S.l with
  | nil =>
    rw [hl] at hf
    cases hf
    obtain ⟨-, i, hi, hd, hbk, hw⟩ := h
    have hin : i = n := by
      rw [hl] at hd
      have := congrArg List.length hd
      simp at this
      omega
    subst hin
    rw [hb] at hbk
    have hxl := blk_lt hbk
    have y0 : w.cell? ⟨w0.heap.size, 0, none⟩ = some (.slice A i c) := by rw [blk_cell hbk]; rfl
    have y1 : w.cell? ⟨w0.heap.size, 1, none⟩ = some (.int .i64 i) := by rw [blk_cell hbk]; rfl
    have y2 : w.cell? ⟨w0.heap.size, 2, none⟩ = some (.bool false) := by rw [blk_cell hbk]; rfl
    have yf := blk_frozen hbk 2
    have HBK := Aside0.mk hbk
    have HD := Aside0.mk hd
    have HW := Aside0.mk hw
    clear hbk hw hd hb hl hE hnl IH
    go_enter Tryz.func142, Tryz.ntmps142
    go_wp2_with fail
    go_quiet (fail)
    go_wp2_with fail
    go_ret
    have hgd : w.grownBy (w.drewN nq) none := grown_drewN (World.grownBy.refl _ _) _
    have hb2 := blk_set ((hgd.block _ (blk_lt HBK.out) (by simp)).trans HBK.out) 2 (.bool true)
    refine ⟨_, S.fail, rfl, HR.out.fail (Nat.le_refl _) HD.out hb2 ((HW.out.grown hgd (by have := blk_lt HBK.out; omega) (fun k hk => by cases hk)).setCell (p := ⟨w0.heap.size, 2, none⟩) (Nat.le_refl _) _), grown_set (grown_any hgd) _ _, .inl ⟨rfl, rfl⟩⟩
  | cons t r =>
    rw [hl] at hf
    dsimp only at hf
    obtain ⟨g, o, i, rfl, hi, hd, hrd, hbk, hw, hgl, a0, a1, a2, a3⟩ := h.at hl
    rw [hb] at hbk
    have hxl := blk_lt hbk
    have hgw : g < w.heap.size := Nat.lt_of_lt_of_le hgl hw.size
    have y0 : w.cell? ⟨w0.heap.size, 0, none⟩ = some (.slice (some ⟨g, o, none⟩) n c) := by rw [blk_cell hbk]; rfl
    have y1 : w.cell? ⟨w0.heap.size, 1, none⟩ = some (.int .i64 i) := by rw [blk_cell hbk]; rfl
    have y2 : w.cell? ⟨w0.heap.size, 2, none⟩ = some (.bool false) := by rw [blk_cell hbk]; rfl
    have hi0 : (0 : Int) ≤ (i : Int) := Int.natCast_nonneg _
    have hin : (i : Int) < (n : Int) := by omega
    have hd1 : decide ((n : Int) ≤ (i : Int)) = false := decide_eq_false (by omega)
    have HBK := Aside0.mk hbk
    have HD := Aside0.mk hd
    have HW := Aside0.mk hw
    have HF := Aside0.mk hf
    have HL := Aside0.mk hl
    have HB := Aside0.mk hb
    clear hbk hw hd hf hl hE hnl hgl hb
    go_enter Tryz.func142, Tryz.ntmps142
    go_wp2_with fail
    go_quiet (fail)
    go_wp2_with fail
    obtain ⟨w1, hw1⟩ : ∃ w1, w.drewN nq = w1 := ⟨_, rfl⟩
    rw [hw1]
    have hg1 : w.grownBy w1 none := hw1 ▸ grown_drewN (World.grownBy.refl _ _) _
    have y0 := hg1.cell y0 (by simp)
    have y1 := hg1.cell y1 (by simp)
    have y2 := hg1.cell y2 (by simp)
    have a0 := hg1.cell a0 (by simp)
    have a1 := hg1.cell a1 (by simp)
    have a2 := hg1.cell a2 (by simp)
    have a3 := hg1.cell a3 (by simp)
    have hxl1 : w0.heap.size < w1.heap.size := Nat.lt_of_lt_of_le hxl hg1.size
    have hgw1 : g < w1.heap.size := Nat.lt_of_lt_of_le hgw hg1.size
    have HG1 := Aside0.mk hg1
    clear hw1 hg1 hxl hgw
    have hn0 : (w1.alloc (.cells #[.int .i64 t.k, .string t.b, .string t.t, .int .i64 t.a] 29)).drew.cell? ⟨w1.heap.size, 0, none⟩ = some (.int .i64 t.k) := (by rw [blk_cell (blk_new w1 _)]; rfl : (w1.alloc (.cells #[.int .i64 t.k, .string t.b, .string t.t, .int .i64 t.a] 29)).cell? ⟨w1.heap.size, 0, none⟩ = some (.int .i64 t.k))
    have hn2 : (w1.alloc (.cells #[.int .i64 t.k, .string t.b, .string t.t, .int .i64 t.a] 29)).drew.cell? ⟨w1.heap.size, 2, none⟩ = some (.string t.t) := (by rw [blk_cell (blk_new w1 _)]; rfl : (w1.alloc (.cells #[.int .i64 t.k, .string t.b, .string t.t, .int .i64 t.a] 29)).cell? ⟨w1.heap.size, 2, none⟩ = some (.string t.t))
    have hg2 : w.grownBy (w1.alloc (.cells #[.int .i64 t.k, .string t.b, .string t.t, .int .i64 t.a] 29)).drew none := grown_drew (grown_trans HG1.out (World.grownBy_alloc _ _ _))
    have hN2 : w1.heap.size < (w1.alloc (.cells #[.int .i64 t.k, .string t.b, .string t.t, .int .i64 t.a] 29)).drew.heap.size := by show _ < (w1.alloc _).heap.size; simp
    go_region
    obtain ⟨w2, hw2⟩ : ∃ w2, (w1.alloc (.cells #[.int .i64 t.k, .string t.b, .string t.t, .int .i64 t.a] 29)).drew = w2 := ⟨_, rfl⟩
    rw [hw2] at hn0 hn2 hg2 hN2 ⊢
    obtain ⟨nb, hnb⟩ : ∃ nb, w1.heap.size = nb := ⟨_, rfl⟩
    rw [hnb] at hn0 hn2 hN2 hxl1 ⊢
    have HG2 := Aside0.mk hg2
    have HR2 := Aside0.mk (HR.out.grown hg2)
    clear hw2 hg2 hnb y0 y1 y2 a0 a1 a2 a3 hgw1 hd1
    have hxn : w0.heap.size ≠ nb := by omega
    have ht40 := fun (S' : Lx.ES) W (hW : RC w0 W (some ⟨g, o, none⟩) n c dv L S') => taker_calls w0 W (some ⟨g, o, none⟩) n c dv L S' [40] ⟨#[40]⟩ (by rw [ByteArray.toList_eq]) hn5 hW
    have ht41 := fun (S' : Lx.ES) W (hW : RC w0 W (some ⟨g, o, none⟩) n c dv L S') => taker_calls w0 W (some ⟨g, o, none⟩) n c dv L S' [41] ⟨#[41]⟩ (by rw [ByteArray.toList_eq]) hn5 hW
    have HT40 := Aside0.mk ht40
    have HT41 := Aside0.mk ht41
    have hs40 := ht40 S w2 HR2.out
    rw [show Lx.isR S [40] = Lx.isS S [40] by unfold Lx.isR; rw [HB.out]; rfl] at hs40
    clear ht40 ht41
    have hf := HF.out
    clear HF
    cases hpa : Lx.isS S [40]
    · rw [if_neg (by rw [hpa]; simp)] at hf
      rw [hpa] at hs40
      have HS40 := Aside0.mk hs40
      have HN0 := Aside0.mk hn0
      have HN2 := Aside0.mk hn2
      have hPt : P t := HE.out.word t (by
        have : t ∈ L.drop i := by rw [← HD.out, HL.out]; exact List.mem_cons_self ..
        exact List.mem_of_mem_drop this)
      clear hs40 hn0 hn2 IH HR2 a0 a1 a2 a3 y0 y1 y2 hin hi0 hrd
      have hbt : S.tl.bad = false := HB.out
      have HBT := Aside0.mk hbt
      clear hbt
      cases h3 : (t.k == 3)
      · rw [if_neg (beq_eq_false_iff_ne.mp h3)] at hf
        cases hdf : (t.t.toList == [100, 101, 102, 105, 110, 101, 100])
        · rw [hdf, if_neg Bool.false_ne_true] at hf
          cases h1 : (t.k == 1)
          · rw [if_neg (beq_eq_false_iff_ne.mp h1)] at hf
            cases hf
            clear HE
            go_wp2_with (first | (go_at_call 103; (with_reducible refine HS40.out.mono ?_); rintro e w3 ⟨rfl, hrc, hg⟩; have hrc : RC w0 w3 (some ⟨g, o, none⟩) n c dv L S := hrc; have HR3 := Aside0.mk hrc; obtain ⟨g3, o3, i3, hA3, hi3, hd3, hrd3, hbk3, hw3, -⟩ := hrc.at HL.out; cases hA3; rw [HB.out] at hbk3; have hxl3 := blk_lt hbk3; have z1 : w3.cell? ⟨w0.heap.size, 1, none⟩ = some (.int .i64 i3) := (by rw [blk_cell hbk3]; rfl); have z2 : w3.cell? ⟨w0.heap.size, 2, none⟩ = some (.bool false) := (by rw [blk_cell hbk3]; rfl); have zf1 := blk_frozen hbk3 1; have zf2 := blk_frozen hbk3 2; have hm0 := hg.cell HN0.out (by simpa using hxn.symm); have hm2 := hg.cell HN2.out (by simpa using hxn.symm); have hi30 : (0 : Int) ≤ (i3 : Int) := Int.natCast_nonneg _; have hi3n : (i3 : Int) < (n : Int) := (by omega); have HG3 := Aside0.mk (grown_trans (grown_any HG2.out) hg); have HBK3 := Aside0.mk hbk3; have HW3 := Aside0.mk hw3; have HD3 := Aside0.mk hd3; clear hrc hg hbk3 hw3 hd3 hrd3))
            go_ret
            exact ⟨_, S.fail, rfl, HR3.out.mk (i := i3) (Nat.le_of_lt hi3) HD3.out (blk_set HBK3.out 2 (.bool true)) (HW3.out.setCell (p := ⟨w0.heap.size, 2, none⟩) (Nat.le_refl _) _), grown_set HG3.out _ _, .inl ⟨rfl, rfl⟩⟩
          · rw [if_pos (beq_iff_eq.mp h1)] at hf
            cases hf
            have HVAL := Aside0.mk (fun W hW => HE.out.val t.t S.tl W hW)
            obtain ⟨v1, hv1⟩ : ∃ v1, (val t.t).1 = v1 := ⟨_, rfl⟩
            rw [hv1] at HVAL
            have HV1 := Aside0.mk hv1
            clear HE hv1
            go_wp2_with (first | (go_at_call 103; (with_reducible refine HS40.out.mono ?_); rintro e w3 ⟨rfl, hrc, hg⟩; have hrc : RC w0 w3 (some ⟨g, o, none⟩) n c dv L S := hrc; have HR3 := Aside0.mk hrc; obtain ⟨g3, o3, i3, hA3, hi3, hd3, hrd3, hbk3, hw3, -⟩ := hrc.at HL.out; cases hA3; rw [HB.out] at hbk3; have hxl3 := blk_lt hbk3; have z1 : w3.cell? ⟨w0.heap.size, 1, none⟩ = some (.int .i64 i3) := (by rw [blk_cell hbk3]; rfl); have z2 : w3.cell? ⟨w0.heap.size, 2, none⟩ = some (.bool false) := (by rw [blk_cell hbk3]; rfl); have zf1 := blk_frozen hbk3 1; have zf2 := blk_frozen hbk3 2; have hm0 := hg.cell HN0.out (by simpa using hxn.symm); have hm2 := hg.cell HN2.out (by simpa using hxn.symm); have hi30 : (0 : Int) ≤ (i3 : Int) := Int.natCast_nonneg _; have hi3n : (i3 : Int) < (n : Int) := (by omega); have HG3 := Aside0.mk (grown_trans (grown_any HG2.out) hg); have HBK3 := Aside0.mk hbk3; have HW3 := Aside0.mk hw3; have HD3 := Aside0.mk hd3; clear hrc hg hbk3 hw3 hd3 hrd3) | ((have hb4 := blk_set HBK3.out 1 (.int .i64 (i3 + 1 : Nat)); have hr4 : RC w0 (w3.setCell ⟨w0.heap.size, 1, none⟩ (.int .i64 ((i3 : Int) + 1))) (some ⟨g, o, none⟩) n c dv L S.tl := HR3.out.mk (i := i3 + 1) hi3 (tl_drop HD3.out) (by rw [show S.tl.bad = false from HB.out]; exact hb4) (HW3.out.setCell (p := ⟨w0.heap.size, 1, none⟩) (Nat.le_refl _) _)); (go_at_call 92; (with_reducible refine (HVAL.out _ hr4).mono ?_); rintro e w4 ⟨rfl, rfl⟩)))
            go_ret
            (have hb4 := blk_set HBK3.out 1 (.int .i64 (i3 + 1 : Nat)); have hr4 : RC w0 (w3.setCell ⟨w0.heap.size, 1, none⟩ (.int .i64 ((i3 : Int) + 1))) (some ⟨g, o, none⟩) n c dv L S.tl := HR3.out.mk (i := i3 + 1) hi3 (tl_drop HD3.out) (by rw [show S.tl.bad = false from HB.out]; exact hb4) (HW3.out.setCell (p := ⟨w0.heap.size, 1, none⟩) (Nat.le_refl _) _))
            exact ⟨_, S.tl, rfl, hr4, grown_set HG3.out _ _, .inr ⟨HBT.out, rfl, HV1.out.symm⟩⟩
        · rw [hdf, if_pos rfl] at hf
          have h1 : (t.k == 1) = true := beq_iff_eq.mpr (HE.out.name t hPt (eq_of_beq hdf))
          have HDE := Aside0.mk (Option.some.inj hf)
          obtain ⟨p, hp⟩ : ∃ p, Lx.isR S.tl [40] = p := ⟨_, rfl⟩
          obtain ⟨U, hU⟩ : ∃ U, (if p = true then S.tl.tl else S.tl) = U := ⟨_, rfl⟩
          have hps : Lx.isS S.tl [40] = p := by rw [← hp]; unfold Lx.isR; rw [HBT.out]; rfl
          have hub : U.bad = false := by rw [← hU]; cases p <;> exact HBT.out
          have HT := Aside0.mk (fun W hW => HT40.out S.tl W hW)
          rw [hp, hU] at HT
          have HPS := Aside0.mk hps
          have HU := Aside0.mk hU
          have HUB := Aside0.mk hub
          clear hp hps hU hub hf HT40
          cases hul : U.l with
          | nil =>
            have HUL := Aside0.mk hul
            clear HE hul
            go_wp2_with (first | (go_at_call 103; (with_reducible refine HS40.out.mono ?_); rintro e w3 ⟨rfl, hrc, hg⟩; have hrc : RC w0 w3 (some ⟨g, o, none⟩) n c dv L S := hrc; have HR3 := Aside0.mk hrc; obtain ⟨g3, o3, i3, hA3, hi3, hd3, hrd3, hbk3, hw3, -⟩ := hrc.at HL.out; cases hA3; rw [HB.out] at hbk3; have hxl3 := blk_lt hbk3; have z1 : w3.cell? ⟨w0.heap.size, 1, none⟩ = some (.int .i64 i3) := (by rw [blk_cell hbk3]; rfl); have z2 : w3.cell? ⟨w0.heap.size, 2, none⟩ = some (.bool false) := (by rw [blk_cell hbk3]; rfl); have zf1 := blk_frozen hbk3 1; have zf2 := blk_frozen hbk3 2; have hm0 := hg.cell HN0.out (by simpa using hxn.symm); have hm2 := hg.cell HN2.out (by simpa using hxn.symm); have hi30 : (0 : Int) ≤ (i3 : Int) := Int.natCast_nonneg _; have hi3n : (i3 : Int) < (n : Int) := (by omega); have HG3 := Aside0.mk (grown_trans (grown_any HG2.out) hg); have HBK3 := Aside0.mk hbk3; have HW3 := Aside0.mk hw3; have HD3 := Aside0.mk hd3; clear hrc hg hbk3 hw3 hd3 hrd3) | ((have hb4 := blk_set HBK3.out 1 (.int .i64 (i3 + 1 : Nat)); have hr4 : RC w0 (w3.setCell ⟨w0.heap.size, 1, none⟩ (.int .i64 ((i3 : Int) + 1))) (some ⟨g, o, none⟩) n c dv L S.tl := HR3.out.mk (i := i3 + 1) hi3 (tl_drop HD3.out) (by rw [show S.tl.bad = false from HB.out]; exact hb4) (HW3.out.setCell (p := ⟨w0.heap.size, 1, none⟩) (Nat.le_refl _) _)); (go_at_call 103; (with_reducible refine (HT.out _ hr4).mono ?_); rintro e w4 ⟨rfl, hrc, hg⟩; have HR4 := Aside0.mk hrc; obtain ⟨-, i4, hi4, hd4, hbk4, hw4⟩ := hrc; have HN4 := Aside0.mk (nil_at HR4.out.len hi4 (hd4.symm.trans HUL.out)); have hd1 : decide ((n : Int) ≤ (i4 : Int)) = true := decide_eq_true (by have := HN4.out; omega); have hd2 : decide (n ≤ i4) = true := decide_eq_true (by have := HN4.out; omega); have hd3 : n ≤ i4 := (by have := HN4.out; omega); rw [HUB.out] at hbk4; have y0 : w4.cell? ⟨w0.heap.size, 0, none⟩ = some (.slice (some ⟨g, o, none⟩) n c) := (by rw [blk_cell hbk4]; rfl); have y1 : w4.cell? ⟨w0.heap.size, 1, none⟩ = some (.int .i64 i4) := (by rw [blk_cell hbk4]; rfl); have y2 : w4.cell? ⟨w0.heap.size, 2, none⟩ = some (.bool false) := (by rw [blk_cell hbk4]; rfl); have yf1 := blk_frozen hbk4 1; have yf2 := blk_frozen hbk4 2; have hxl4 := blk_lt hbk4; have hi40 : (0 : Int) ≤ (i4 : Int) := Int.natCast_nonneg _; have HBK4 := Aside0.mk hbk4; have HW4 := Aside0.mk hw4; have HD4 := Aside0.mk hd4; have HG4 := Aside0.mk (grown_trans (grown_set HG3.out 1 (.int .i64 ((i3 : Int) + 1))) hg); clear hrc hg hbk4 hw4 hd4 hr4 hb4)))
            go_quiet (fail)
            go_wp2_with fail
            go_ret
            have hgd := fun nq => grown_drewN (World.grownBy.refl w4 none) nq
            refine ⟨_, U.fail, rfl, HR4.out.mk (i := i4) (by omega) HD4.out (blk_set (((hgd _).block _ (blk_lt HBK4.out) (by simp)).trans HBK4.out) 2 (.bool true)) ((HW4.out.grown (hgd _) (by have := blk_lt HBK4.out; omega) (fun k hk => by cases hk)).setCell (p := ⟨w0.heap.size, 2, none⟩) (Nat.le_refl _) _), grown_set (grown_trans HG4.out (grown_any (hgd _))) _ _, ?_⟩
            exact .inl ⟨defined_bad HDE.out HPS.out HU.out (.inl HUL.out), rfl⟩
          | cons t2 r2 =>
            have HUL := Aside0.mk hul
            clear hul
            cases hk2 : (t2.k == 1)
            · have HK2 := Aside0.mk hk2
              clear HE
              go_wp2_with (first | (go_at_call 103; (with_reducible refine HS40.out.mono ?_); rintro e w3 ⟨rfl, hrc, hg⟩; have hrc : RC w0 w3 (some ⟨g, o, none⟩) n c dv L S := hrc; have HR3 := Aside0.mk hrc; obtain ⟨g3, o3, i3, hA3, hi3, hd3, hrd3, hbk3, hw3, -⟩ := hrc.at HL.out; cases hA3; rw [HB.out] at hbk3; have hxl3 := blk_lt hbk3; have z1 : w3.cell? ⟨w0.heap.size, 1, none⟩ = some (.int .i64 i3) := (by rw [blk_cell hbk3]; rfl); have z2 : w3.cell? ⟨w0.heap.size, 2, none⟩ = some (.bool false) := (by rw [blk_cell hbk3]; rfl); have zf1 := blk_frozen hbk3 1; have zf2 := blk_frozen hbk3 2; have hm0 := hg.cell HN0.out (by simpa using hxn.symm); have hm2 := hg.cell HN2.out (by simpa using hxn.symm); have hi30 : (0 : Int) ≤ (i3 : Int) := Int.natCast_nonneg _; have hi3n : (i3 : Int) < (n : Int) := (by omega); have HG3 := Aside0.mk (grown_trans (grown_any HG2.out) hg); have HBK3 := Aside0.mk hbk3; have HW3 := Aside0.mk hw3; have HD3 := Aside0.mk hd3; clear hrc hg hbk3 hw3 hd3 hrd3) | ((have hb4 := blk_set HBK3.out 1 (.int .i64 (i3 + 1 : Nat)); have hr4 : RC w0 (w3.setCell ⟨w0.heap.size, 1, none⟩ (.int .i64 ((i3 : Int) + 1))) (some ⟨g, o, none⟩) n c dv L S.tl := HR3.out.mk (i := i3 + 1) hi3 (tl_drop HD3.out) (by rw [show S.tl.bad = false from HB.out]; exact hb4) (HW3.out.setCell (p := ⟨w0.heap.size, 1, none⟩) (Nat.le_refl _) _)); (go_at_call 103; (with_reducible refine (HT.out _ hr4).mono ?_); rintro e w4 ⟨rfl, hrc, hg⟩; have HR4 := Aside0.mk hrc; obtain ⟨g4, o4, i4, hA4, hi4, hd4, hrd4, hbk4, hw4, -, a0, a1, a2, a3⟩ := hrc.at HUL.out; cases hA4; rw [HUB.out] at hbk4; have hi4n : (i4 : Int) < (n : Int) := (by omega); have hd1 : decide ((n : Int) ≤ (i4 : Int)) = false := decide_eq_false (by omega); have hd2 : decide (n ≤ i4) = false := decide_eq_false (by omega); have hd3 : ¬ n ≤ i4 := (by omega); have HRD4 := Aside0.mk hrd4; clear hrd4; have y0 : w4.cell? ⟨w0.heap.size, 0, none⟩ = some (.slice (some ⟨g, o, none⟩) n c) := (by rw [blk_cell hbk4]; rfl); have y1 : w4.cell? ⟨w0.heap.size, 1, none⟩ = some (.int .i64 i4) := (by rw [blk_cell hbk4]; rfl); have y2 : w4.cell? ⟨w0.heap.size, 2, none⟩ = some (.bool false) := (by rw [blk_cell hbk4]; rfl); have yf1 := blk_frozen hbk4 1; have yf2 := blk_frozen hbk4 2; have hxl4 := blk_lt hbk4; have hi40 : (0 : Int) ≤ (i4 : Int) := Int.natCast_nonneg _; have HBK4 := Aside0.mk hbk4; have HW4 := Aside0.mk hw4; have HD4 := Aside0.mk hd4; have HG4 := Aside0.mk (grown_trans (grown_set HG3.out 1 (.int .i64 ((i3 : Int) + 1))) hg); clear hrc hg hbk4 hw4 hd4 hr4 hb4)))
              go_quiet (fail)
              go_wp2_with fail
              go_ret
              have hgd := fun nq => grown_drewN (World.grownBy.refl w4 none) nq
              refine ⟨_, U.fail, rfl, HR4.out.mk (i := i4) (by omega) HD4.out (blk_set (((hgd _).block _ (blk_lt HBK4.out) (by simp)).trans HBK4.out) 2 (.bool true)) ((HW4.out.grown (hgd _) (by have := blk_lt HBK4.out; omega) (fun k hk => by cases hk)).setCell (p := ⟨w0.heap.size, 2, none⟩) (Nat.le_refl _) _), grown_set (grown_trans HG4.out (grown_any (hgd _))) _ _, ?_⟩
              exact .inl ⟨defined_bad HDE.out HPS.out HU.out (.inr ⟨t2, r2, HUL.out, beq_eq_false_iff_ne.mp HK2.out⟩), rfl⟩
            · have HFD := Aside0.mk (fun W hW => HE.out.val t2.t U W hW)
              obtain ⟨vv, hvv⟩ : ∃ vv, (val t2.t).1 = vv := ⟨_, rfl⟩
              obtain ⟨ok, hok⟩ : ∃ ok, (val t2.t).2 = ok := ⟨_, rfl⟩
              rw [hvv, hok] at HFD
              have HOK := Aside0.mk hok
              have HK2 := Aside0.mk hk2
              have HT5 := Aside0.mk (fun W hW => HT41.out U.tl W hW)
              obtain ⟨q, hq⟩ : ∃ q, Lx.isR U.tl [41] = q := ⟨_, rfl⟩
              rw [hq] at HT5
              have HQ := Aside0.mk hq
              clear HE hvv hok hq HT41
              cases p
              · go_wp2_with (first | (go_at_call 103; (with_reducible refine HS40.out.mono ?_); rintro e w3 ⟨rfl, hrc, hg⟩; have hrc : RC w0 w3 (some ⟨g, o, none⟩) n c dv L S := hrc; have HR3 := Aside0.mk hrc; obtain ⟨g3, o3, i3, hA3, hi3, hd3, hrd3, hbk3, hw3, -⟩ := hrc.at HL.out; cases hA3; rw [HB.out] at hbk3; have hxl3 := blk_lt hbk3; have z1 : w3.cell? ⟨w0.heap.size, 1, none⟩ = some (.int .i64 i3) := (by rw [blk_cell hbk3]; rfl); have z2 : w3.cell? ⟨w0.heap.size, 2, none⟩ = some (.bool false) := (by rw [blk_cell hbk3]; rfl); have zf1 := blk_frozen hbk3 1; have zf2 := blk_frozen hbk3 2; have hm0 := hg.cell HN0.out (by simpa using hxn.symm); have hm2 := hg.cell HN2.out (by simpa using hxn.symm); have hi30 : (0 : Int) ≤ (i3 : Int) := Int.natCast_nonneg _; have hi3n : (i3 : Int) < (n : Int) := (by omega); have HG3 := Aside0.mk (grown_trans (grown_any HG2.out) hg); have HBK3 := Aside0.mk hbk3; have HW3 := Aside0.mk hw3; have HD3 := Aside0.mk hd3; clear hrc hg hbk3 hw3 hd3 hrd3) | ((have hb4 := blk_set HBK3.out 1 (.int .i64 (i3 + 1 : Nat)); have hr4 : RC w0 (w3.setCell ⟨w0.heap.size, 1, none⟩ (.int .i64 ((i3 : Int) + 1))) (some ⟨g, o, none⟩) n c dv L S.tl := HR3.out.mk (i := i3 + 1) hi3 (tl_drop HD3.out) (by rw [show S.tl.bad = false from HB.out]; exact hb4) (HW3.out.setCell (p := ⟨w0.heap.size, 1, none⟩) (Nat.le_refl _) _)); (go_at_call 103; (with_reducible refine (HT.out _ hr4).mono ?_); rintro e w4 ⟨rfl, hrc, hg⟩; have HR4 := Aside0.mk hrc; obtain ⟨g4, o4, i4, hA4, hi4, hd4, hrd4, hbk4, hw4, -, a0, a1, a2, a3⟩ := hrc.at HUL.out; cases hA4; rw [HUB.out] at hbk4; have hi4n : (i4 : Int) < (n : Int) := (by omega); have hd1 : decide ((n : Int) ≤ (i4 : Int)) = false := decide_eq_false (by omega); have hd2 : decide (n ≤ i4) = false := decide_eq_false (by omega); have hd3 : ¬ n ≤ i4 := (by omega); have HRD4 := Aside0.mk hrd4; clear hrd4; have y0 : w4.cell? ⟨w0.heap.size, 0, none⟩ = some (.slice (some ⟨g, o, none⟩) n c) := (by rw [blk_cell hbk4]; rfl); have y1 : w4.cell? ⟨w0.heap.size, 1, none⟩ = some (.int .i64 i4) := (by rw [blk_cell hbk4]; rfl); have y2 : w4.cell? ⟨w0.heap.size, 2, none⟩ = some (.bool false) := (by rw [blk_cell hbk4]; rfl); have yf1 := blk_frozen hbk4 1; have yf2 := blk_frozen hbk4 2; have hxl4 := blk_lt hbk4; have hi40 : (0 : Int) ≤ (i4 : Int) := Int.natCast_nonneg _; have HBK4 := Aside0.mk hbk4; have HW4 := Aside0.mk hw4; have HD4 := Aside0.mk hd4; have HG4 := Aside0.mk (grown_trans (grown_set HG3.out 1 (.int .i64 ((i3 : Int) + 1))) hg); clear hrc hg hbk4 hw4 hd4 hr4 hb4)))
                go_quiet (fail)
                go_wp2_with fail
                obtain ⟨w5, hw5⟩ : ∃ w5, w4.drewN nq = w5 := ⟨_, rfl⟩
                rw [hw5]
                have hg5 : w4.grownBy w5 none := hw5 ▸ grown_drewN (World.grownBy.refl _ _) _
                have HR5 := Aside0.mk (HR4.out.grown hg5)
                have y0 := hg5.cell y0 (by simp)
                have y1 := hg5.cell y1 (by simp)
                have y2 := hg5.cell y2 (by simp)
                have a0 := hg5.cell a0 (by simp)
                have a1 := hg5.cell a1 (by simp)
                have a2 := hg5.cell a2 (by simp)
                have a3 := hg5.cell a3 (by simp)
                have hxl5 := Nat.lt_of_lt_of_le hxl4 hg5.size
                have HG5 := Aside0.mk hg5
                clear hw5 hg5
                go_quiet (first | (go_at_call 92; exact Calls.quiet_of_same (HFD.out _ (HR5.out.grown (grown_drewN (World.grownBy.refl _ _) _)))))
                obtain ⟨w6, hw6⟩ : ∃ w6, w5.drewN nq = w6 := ⟨_, rfl⟩
                rw [hw6]
                have hg6 : w4.grownBy w6 none := grown_trans HG5.out (hw6 ▸ grown_drewN (World.grownBy.refl _ _) _)
                have hbk6 := (hg6.block _ (blk_lt HBK4.out) (by simp)).trans HBK4.out
                have hxl6 := blk_lt hbk6
                clear hw6 y0 y1 y2 a0 a1 a2 a3 yf1 yf2 hxl5 hxl4 HG5
                have y1 : w6.cell? ⟨w0.heap.size, 1, none⟩ = some (.int .i64 i4) := by rw [blk_cell hbk6]; rfl
                have yf1 := blk_frozen hbk6 1
                have HB7 := Aside0.mk (blk_set hbk6 1 (.int .i64 (i4 + 1 : Nat)))
                have HW7 := Aside0.mk ((HW4.out.grown hg6 (by have := blk_lt HBK4.out; omega) (fun k hk => by cases hk)).setCell (p := ⟨w0.heap.size, 1, none⟩) (Nat.le_refl _) (.int .i64 (i4 + 1 : Nat)))
                have HR7 : Aside0 (RC w0 (w6.setCell ⟨w0.heap.size, 1, none⟩ (.int .i64 ((i4 : Int) + 1))) (some ⟨g, o, none⟩) n c dv L U.tl) := Aside0.mk (HR4.out.mk (i := i4 + 1) (S' := U.tl) (by omega) (tl_drop HD4.out) (by rw [show U.tl.bad = false from HUB.out]; exact HB7.out) HW7.out)
                have HG7 := Aside0.mk (grown_set (grown_trans HG4.out (grown_any hg6)) 1 (.int .i64 (i4 + 1 : Nat)))
                have HK2 := Aside0.mk (beq_iff_eq.mp HK2.out)
                have HVD := Aside0.mk (defined_val HDE.out HPS.out HU.out HUL.out HK2.out HUB.out HQ.out)
                clear hg6 hbk6
                go_wp2_with (first | (go_at_call 141; (refine (oner_calls _ _).mono ?_); rintro e w' ⟨rfl, rfl⟩))
                go_ret
                refine ⟨_, U.tl, rfl, HR7.out, HG7.out, .inr ?_⟩
                obtain ⟨e1, e2⟩ := HVD.out.1 (by simp)
                exact ⟨by rw [e1]; exact HUB.out, e1.symm, by rw [e2, HOK.out]⟩
              · go_wp2_with (first | (go_at_call 103; (with_reducible refine HS40.out.mono ?_); rintro e w3 ⟨rfl, hrc, hg⟩; have hrc : RC w0 w3 (some ⟨g, o, none⟩) n c dv L S := hrc; have HR3 := Aside0.mk hrc; obtain ⟨g3, o3, i3, hA3, hi3, hd3, hrd3, hbk3, hw3, -⟩ := hrc.at HL.out; cases hA3; rw [HB.out] at hbk3; have hxl3 := blk_lt hbk3; have z1 : w3.cell? ⟨w0.heap.size, 1, none⟩ = some (.int .i64 i3) := (by rw [blk_cell hbk3]; rfl); have z2 : w3.cell? ⟨w0.heap.size, 2, none⟩ = some (.bool false) := (by rw [blk_cell hbk3]; rfl); have zf1 := blk_frozen hbk3 1; have zf2 := blk_frozen hbk3 2; have hm0 := hg.cell HN0.out (by simpa using hxn.symm); have hm2 := hg.cell HN2.out (by simpa using hxn.symm); have hi30 : (0 : Int) ≤ (i3 : Int) := Int.natCast_nonneg _; have hi3n : (i3 : Int) < (n : Int) := (by omega); have HG3 := Aside0.mk (grown_trans (grown_any HG2.out) hg); have HBK3 := Aside0.mk hbk3; have HW3 := Aside0.mk hw3; have HD3 := Aside0.mk hd3; clear hrc hg hbk3 hw3 hd3 hrd3) | ((have hb4 := blk_set HBK3.out 1 (.int .i64 (i3 + 1 : Nat)); have hr4 : RC w0 (w3.setCell ⟨w0.heap.size, 1, none⟩ (.int .i64 ((i3 : Int) + 1))) (some ⟨g, o, none⟩) n c dv L S.tl := HR3.out.mk (i := i3 + 1) hi3 (tl_drop HD3.out) (by rw [show S.tl.bad = false from HB.out]; exact hb4) (HW3.out.setCell (p := ⟨w0.heap.size, 1, none⟩) (Nat.le_refl _) _)); (go_at_call 103; (with_reducible refine (HT.out _ hr4).mono ?_); rintro e w4 ⟨rfl, hrc, hg⟩; have HR4 := Aside0.mk hrc; obtain ⟨g4, o4, i4, hA4, hi4, hd4, hrd4, hbk4, hw4, -, a0, a1, a2, a3⟩ := hrc.at HUL.out; cases hA4; rw [HUB.out] at hbk4; have hi4n : (i4 : Int) < (n : Int) := (by omega); have hd1 : decide ((n : Int) ≤ (i4 : Int)) = false := decide_eq_false (by omega); have hd2 : decide (n ≤ i4) = false := decide_eq_false (by omega); have hd3 : ¬ n ≤ i4 := (by omega); have HRD4 := Aside0.mk hrd4; clear hrd4; have y0 : w4.cell? ⟨w0.heap.size, 0, none⟩ = some (.slice (some ⟨g, o, none⟩) n c) := (by rw [blk_cell hbk4]; rfl); have y1 : w4.cell? ⟨w0.heap.size, 1, none⟩ = some (.int .i64 i4) := (by rw [blk_cell hbk4]; rfl); have y2 : w4.cell? ⟨w0.heap.size, 2, none⟩ = some (.bool false) := (by rw [blk_cell hbk4]; rfl); have yf1 := blk_frozen hbk4 1; have yf2 := blk_frozen hbk4 2; have hxl4 := blk_lt hbk4; have hi40 : (0 : Int) ≤ (i4 : Int) := Int.natCast_nonneg _; have HBK4 := Aside0.mk hbk4; have HW4 := Aside0.mk hw4; have HD4 := Aside0.mk hd4; have HG4 := Aside0.mk (grown_trans (grown_set HG3.out 1 (.int .i64 ((i3 : Int) + 1))) hg); clear hrc hg hbk4 hw4 hd4 hr4 hb4)))
                go_quiet (fail)
                go_wp2_with fail
                obtain ⟨w5, hw5⟩ : ∃ w5, w4.drewN nq = w5 := ⟨_, rfl⟩
                rw [hw5]
                have hg5 : w4.grownBy w5 none := hw5 ▸ grown_drewN (World.grownBy.refl _ _) _
                have HR5 := Aside0.mk (HR4.out.grown hg5)
                have y0 := hg5.cell y0 (by simp)
                have y1 := hg5.cell y1 (by simp)
                have y2 := hg5.cell y2 (by simp)
                have a0 := hg5.cell a0 (by simp)
                have a1 := hg5.cell a1 (by simp)
                have a2 := hg5.cell a2 (by simp)
                have a3 := hg5.cell a3 (by simp)
                have hxl5 := Nat.lt_of_lt_of_le hxl4 hg5.size
                have HG5 := Aside0.mk hg5
                clear hw5 hg5
                go_quiet (first | (go_at_call 92; exact Calls.quiet_of_same (HFD.out _ (HR5.out.grown (grown_drewN (World.grownBy.refl _ _) _)))))
                obtain ⟨w6, hw6⟩ : ∃ w6, w5.drewN nq = w6 := ⟨_, rfl⟩
                rw [hw6]
                have hg6 : w4.grownBy w6 none := grown_trans HG5.out (hw6 ▸ grown_drewN (World.grownBy.refl _ _) _)
                have hbk6 := (hg6.block _ (blk_lt HBK4.out) (by simp)).trans HBK4.out
                have hxl6 := blk_lt hbk6
                clear hw6 y0 y1 y2 a0 a1 a2 a3 yf1 yf2 hxl5 hxl4 HG5
                have y1 : w6.cell? ⟨w0.heap.size, 1, none⟩ = some (.int .i64 i4) := by rw [blk_cell hbk6]; rfl
                have yf1 := blk_frozen hbk6 1
                have HB7 := Aside0.mk (blk_set hbk6 1 (.int .i64 (i4 + 1 : Nat)))
                have HW7 := Aside0.mk ((HW4.out.grown hg6 (by have := blk_lt HBK4.out; omega) (fun k hk => by cases hk)).setCell (p := ⟨w0.heap.size, 1, none⟩) (Nat.le_refl _) (.int .i64 (i4 + 1 : Nat)))
                have HR7 : Aside0 (RC w0 (w6.setCell ⟨w0.heap.size, 1, none⟩ (.int .i64 ((i4 : Int) + 1))) (some ⟨g, o, none⟩) n c dv L U.tl) := Aside0.mk (HR4.out.mk (i := i4 + 1) (S' := U.tl) (by omega) (tl_drop HD4.out) (by rw [show U.tl.bad = false from HUB.out]; exact HB7.out) HW7.out)
                have HG7 := Aside0.mk (grown_set (grown_trans HG4.out (grown_any hg6)) 1 (.int .i64 (i4 + 1 : Nat)))
                have HK2 := Aside0.mk (beq_iff_eq.mp HK2.out)
                have HVD := Aside0.mk (defined_val HDE.out HPS.out HU.out HUL.out HK2.out HUB.out HQ.out)
                clear hg6 hbk6
                go_wp2_with (first | (go_at_call 103; (with_reducible refine (HT5.out _ HR7.out).mono ?_); rintro e w8 ⟨rfl, hrc, hg⟩; have HR8 := Aside0.mk hrc; obtain ⟨-, i8, hi8, hd8, hbk8, hw8⟩ := hrc; have y82 : w8.cell? ⟨w0.heap.size, 2, none⟩ = some (.bool (if q = true then U.tl.tl else U.tl).bad) := (by rw [blk_cell hbk8]; rfl); have yf8 := blk_frozen hbk8 2; have hxl8 := blk_lt hbk8; have HBK8 := Aside0.mk hbk8; have HD8 := Aside0.mk hd8; have HW8 := Aside0.mk hw8; have HG8 := Aside0.mk (grown_trans HG7.out hg); clear hg hd8 hbk8 hw8) | (go_at_call 141; (refine (oner_calls _ _).mono ?_); rintro e w' ⟨rfl, rfl⟩))
                · have hq5 : q = false := by first | assumption | (rename_i qq; simpa using qq)
                  subst hq5
                  go_ret
                  exact ⟨_, U.tl.fail, rfl, HR8.out.mk (i := i8) hi8 HD8.out (blk_set HBK8.out 2 (.bool true)) (HW8.out.setCell (p := ⟨w0.heap.size, 2, none⟩) (Nat.le_refl _) _), grown_set HG8.out _ _, .inl ⟨HVD.out.2.2 (by simp) (by simp), rfl⟩⟩
                · have hq5 : q = true := by first | assumption | (rename_i qq; simpa using qq)
                  subst hq5
                  go_ret
                  refine ⟨_, U.tl.tl, rfl, HR8.out, HG8.out, .inr ?_⟩
                  obtain ⟨e1, e2⟩ := HVD.out.2.1 (by simp) (by simp)
                  exact ⟨by rw [e1]; exact HUB.out, e1.symm, by rw [e2, HOK.out]⟩
      · rw [if_pos (beq_iff_eq.mp h3)] at hf
        have HNUM := Aside0.mk (HE.out.num t hPt (beq_iff_eq.mp h3))
        obtain ⟨ok, hok⟩ : ∃ ok, (num t.t).2 = ok := ⟨_, rfl⟩
        rw [hok] at hf HNUM
        have HF := Aside0.mk hf
        clear hf hok HE
        go_wp2_with (first
          | (go_at_call 103; (with_reducible refine HS40.out.mono ?_); rintro e w3 ⟨rfl, hrc, hg⟩; have hrc : RC w0 w3 (some ⟨g, o, none⟩) n c dv L S := hrc; have HR3 := Aside0.mk hrc; obtain ⟨g3, o3, i3, hA3, hi3, hd3, hrd3, hbk3, hw3, -⟩ := hrc.at HL.out; cases hA3; rw [HB.out] at hbk3; have hxl3 := blk_lt hbk3; have z1 : w3.cell? ⟨w0.heap.size, 1, none⟩ = some (.int .i64 i3) := (by rw [blk_cell hbk3]; rfl); have z2 : w3.cell? ⟨w0.heap.size, 2, none⟩ = some (.bool false) := (by rw [blk_cell hbk3]; rfl); have zf1 := blk_frozen hbk3 1; have zf2 := blk_frozen hbk3 2; have hm0 := hg.cell HN0.out (by simpa using hxn.symm); have hm2 := hg.cell HN2.out (by simpa using hxn.symm); have hi30 : (0 : Int) ≤ (i3 : Int) := Int.natCast_nonneg _; have hi3n : (i3 : Int) < (n : Int) := (by omega); have HG3 := Aside0.mk (grown_trans (grown_any HG2.out) hg); have HBK3 := Aside0.mk hbk3; have HW3 := Aside0.mk hw3; have HD3 := Aside0.mk hd3; clear hrc hg hbk3 hw3 hd3 hrd3) | (go_at_call 169; (with_reducible refine (HNUM.out _ (HW3.out.setCell (p := ⟨w0.heap.size, 1, none⟩) (Nat.le_refl _) _)).mono ?_); rintro e w4 ⟨v', rfl, hv', rfl⟩; have HV' := Aside0.mk hv'; clear hv'))
        go_ret
        refine ⟨_, ⟨S.tl.l, !ok⟩, rfl, HR3.out.mk (i := i3 + 1) hi3 (tl_drop HD3.out) (blk_set (blk_set HBK3.out 1 (.int .i64 (i3 + 1 : Nat))) 2 (.bool (!ok))) ((HW3.out.setCell (p := ⟨w0.heap.size, 1, none⟩) (Nat.le_refl _) _).setCell (p := ⟨w0.heap.size, 2, none⟩) (Nat.le_refl _) _), grown_set (grown_set HG3.out _ _) _ _, ?_⟩
        have hf := HF.out
        have hv := HV'.out
        cases ok
        · rw [if_neg Bool.false_ne_true] at hf
          cases hf
          exact .inl ⟨rfl, rfl⟩
        · rw [if_pos rfl] at hf
          cases hf
          refine .inr ⟨HBT.out, ?_, hv rfl⟩
          show (⟨S.tl.l, false⟩ : Lx.ES) = S.tl
          rw [← HBT.out]
    · rw [if_pos hpa] at hf
      rw [hpa] at hs40
      have HS40 := Aside0.mk hs40
      cases hbf : Lx.binF num val m 1 S.tl with
      | none => rw [hbf] at hf; cases hf
      | some q =>
      obtain ⟨v1, T1⟩ := q
      rw [hbf] at hf
      dsimp only at hf
      have hlv := fun W (hW : RC w0 W (some ⟨g, o, none⟩) n c dv L S.tl) => IH m (Nat.lt_succ_self m) 0 S.tl T1 v1 W (by omega) hbf HB.out hW
      have HLV := Aside0.mk (show ∀ W, RC w0 W (some ⟨g, o, none⟩) n c dv L S.tl → Calls Tryz.prog 87 #[.pointer (some ⟨w0.heap.size, 0, none⟩), .int .i64 0] W (PostR w0 (some ⟨g, o, none⟩) n c dv L W v1 T1) from hlv)
      have HF := Aside0.mk hf
      clear hs40 hpa hbf hlv hf IH hn0 hn2
      go_wp2_with (first
        | (go_at_call 103; (with_reducible refine HS40.out.mono ?_); rintro e w3 ⟨rfl, hrc, hg⟩; have hrc : RC w0 w3 (some ⟨g, o, none⟩) n c dv L S.tl := hrc; have HR3 := Aside0.mk hrc; have HG3 := Aside0.mk (grown_trans (grown_any HG2.out) hg); clear hrc hg) | (go_at_call 87; (refine (HLV.out w3 HR3.out).mono ?_); rintro e w4 ⟨v', T1', rfl, hrc, hg, hsm⟩; have hs41 := HT41.out T1' w4 hrc; obtain ⟨b, hbb⟩ : ∃ b, Lx.isR T1' [41] = b := ⟨_, rfl⟩; rw [hbb] at hs41; have HS41 := Aside0.mk hs41; have HBB := Aside0.mk hbb; have HSM := Aside0.mk hsm; have HG4 := Aside0.mk (grown_trans HG3.out hg); clear hrc hg hsm hs41 hbb) | (go_at_call 103; (with_reducible refine HS41.out.mono ?_); rintro e w5 ⟨rfl, hrc, hg⟩; have HR5 := Aside0.mk hrc; obtain ⟨-, i5, hi5, hd5, hbk5, hw5⟩ := hrc; have y52 : w5.cell? ⟨w0.heap.size, 2, none⟩ = some (.bool (if b = true then T1'.tl else T1').bad) := (by rw [blk_cell hbk5]; rfl); have yf5 := blk_frozen hbk5 2; have hxl5 := blk_lt hbk5; have HBK5 := Aside0.mk hbk5; have HD5 := Aside0.mk hd5; have HW5 := Aside0.mk hw5; have HG5 := Aside0.mk (grown_trans HG4.out hg); clear hg hd5 hbk5 hw5))
      · have hb5 : b = false := by first | assumption | (rename_i q; simpa using q)
        subst hb5
        go_ret
        exact ⟨_, T1'.fail, rfl, RC.fail HR5.out hi5 HD5.out (blk_set HBK5.out 2 (.bool true)) (HW5.out.setCell (p := ⟨w0.heap.size, 2, none⟩) (Nat.le_refl _) _), grown_set HG5.out _ _, paren_no HSM.out HBB.out HF.out⟩
      · have hb5 : b = true := by first | assumption | (rename_i q; simpa using q)
        subst hb5
        go_ret
        exact ⟨_, T1'.tl, rfl, HR5.out, HG5.out, paren_yes HSM.out HBB.out HF.out⟩
end Go.Proofs.YtjnafjgonoficaaGreatDoor
namespace Go.Proofs.YtjnafjgonoficaaGreatDoor
open Go.RowKit Go.Proofs.YtjnafjgonoficaaGreatDoorW.PrintWords
set_option linter.unusedVariables false
set_option linter.unusedSimpArgs false
namespace Lx
/-- The signs of a level. -/
def sg : Nat → List ByteArray
  | 0 => [⟨#[124, 124]⟩]
  | 1 => [⟨#[38, 38]⟩]
  | 2 => [⟨#[61, 61]⟩, ⟨#[33, 61]⟩]
  | 3 => [⟨#[60]⟩, ⟨#[60, 61]⟩, ⟨#[62]⟩, ⟨#[62, 61]⟩]
  | 4 => [⟨#[43]⟩, ⟨#[45]⟩]
  | _ => [⟨#[42]⟩, ⟨#[47]⟩, ⟨#[37]⟩]
def sgBase : Nat → Nat
  | 0 => 0
  | 1 => 1
  | 2 => 2
  | 3 => 4
  | 4 => 8
  | _ => 10
theorem find_none {k : Nat} {S : ES} (hk : k < 6) (h : ∀ (i : Nat) (g : ByteArray), (sg k)[i]? = some g → isS S g.toList = false) : findOp (k + 1) S = none := by
  have e : ∀ l : List UInt8, (⟨l.toArray⟩ : ByteArray).toList = l := fun l => by rw [ByteArray.toList_eq]
  match k, hk with
  | 0, _ => have h0 := h 0 _ rfl; rw [ByteArray.toList_eq] at h0; simp at h0; simp [findOp, findFrom, ops, h0]
  | 1, _ => have h0 := h 0 _ rfl; rw [ByteArray.toList_eq] at h0; simp at h0; simp [findOp, findFrom, ops, h0]
  | 2, _ => have h0 := h 0 _ rfl; have h1 := h 1 _ rfl; rw [ByteArray.toList_eq] at h0 h1; simp at h0 h1; simp [findOp, findFrom, ops, h0, h1]
  | 3, _ => have h0 := h 0 _ rfl; have h1 := h 1 _ rfl; have h2 := h 2 _ rfl; have h3 := h 3 _ rfl; rw [ByteArray.toList_eq] at h0 h1 h2 h3; simp at h0 h1 h2 h3; simp [findOp, findFrom, ops, h0, h1, h2, h3]
  | 4, _ => have h0 := h 0 _ rfl; have h1 := h 1 _ rfl; rw [ByteArray.toList_eq] at h0 h1; simp at h0 h1; simp [findOp, findFrom, ops, h0, h1]
  | 5, _ => have h0 := h 0 _ rfl; have h1 := h 1 _ rfl; have h2 := h 2 _ rfl; rw [ByteArray.toList_eq] at h0 h1 h2; simp at h0 h1 h2; simp [findOp, findFrom, ops, h0, h1, h2]
theorem find_some {k i : Nat} {g : ByteArray} {S : ES} (hk : k < 6) (hg : (sg k)[i]? = some g) (hs : isS S g.toList = true) (h : ∀ (j : Nat) (g' : ByteArray), j < i → (sg k)[j]? = some g' → isS S g'.toList = false) : findOp (k + 1) S = some (sgBase k + i) := by
  match k, hk, i, hg, h with
  | 0, _, 0, hg, h => cases hg; rw [ByteArray.toList_eq] at hs; simp at hs; simp [findOp, findFrom, ops, hs, sgBase]
  | 1, _, 0, hg, h => cases hg; rw [ByteArray.toList_eq] at hs; simp at hs; simp [findOp, findFrom, ops, hs, sgBase]
  | 2, _, 0, hg, h => cases hg; rw [ByteArray.toList_eq] at hs; simp at hs; simp [findOp, findFrom, ops, hs, sgBase]
  | 2, _, 1, hg, h => cases hg; have h0 := h 0 _ (by omega) rfl; rw [ByteArray.toList_eq] at hs h0; simp at hs h0; simp [findOp, findFrom, ops, hs, sgBase, h0]
  | 3, _, 0, hg, h => cases hg; rw [ByteArray.toList_eq] at hs; simp at hs; simp [findOp, findFrom, ops, hs, sgBase]
  | 3, _, 1, hg, h => cases hg; have h0 := h 0 _ (by omega) rfl; rw [ByteArray.toList_eq] at hs h0; simp at hs h0; simp [findOp, findFrom, ops, hs, sgBase, h0]
  | 3, _, 2, hg, h => cases hg; have h0 := h 0 _ (by omega) rfl; have h1 := h 1 _ (by omega) rfl; rw [ByteArray.toList_eq] at hs h0 h1; simp at hs h0 h1; simp [findOp, findFrom, ops, hs, sgBase, h0, h1]
  | 3, _, 3, hg, h => cases hg; have h0 := h 0 _ (by omega) rfl; have h1 := h 1 _ (by omega) rfl; have h2 := h 2 _ (by omega) rfl; rw [ByteArray.toList_eq] at hs h0 h1 h2; simp at hs h0 h1 h2; simp [findOp, findFrom, ops, hs, sgBase, h0, h1, h2]
  | 4, _, 0, hg, h => cases hg; rw [ByteArray.toList_eq] at hs; simp at hs; simp [findOp, findFrom, ops, hs, sgBase]
  | 4, _, 1, hg, h => cases hg; have h0 := h 0 _ (by omega) rfl; rw [ByteArray.toList_eq] at hs h0; simp at hs h0; simp [findOp, findFrom, ops, hs, sgBase, h0]
  | 5, _, 0, hg, h => cases hg; rw [ByteArray.toList_eq] at hs; simp at hs; simp [findOp, findFrom, ops, hs, sgBase]
  | 5, _, 1, hg, h => cases hg; have h0 := h 0 _ (by omega) rfl; rw [ByteArray.toList_eq] at hs h0; simp at hs h0; simp [findOp, findFrom, ops, hs, sgBase, h0]
  | 5, _, 2, hg, h => cases hg; have h0 := h 0 _ (by omega) rfl; have h1 := h 1 _ (by omega) rfl; rw [ByteArray.toList_eq] at hs h0 h1; simp at hs h0 h1; simp [findOp, findFrom, ops, hs, sgBase, h0, h1]
  | 0, _, i + 1, hg, h => simp [sg] at hg
  | 1, _, i + 1, hg, h => simp [sg] at hg
  | 2, _, i + 2, hg, h => simp [sg] at hg
  | 3, _, i + 4, hg, h => simp [sg] at hg
  | 4, _, i + 2, hg, h => simp [sg] at hg
  | 5, _, i + 3, hg, h => simp [sg] at hg
theorem sg_ne {k i : Nat} {g : ByteArray} (hg : (sg k)[i]? = some g) : g.toList.isEmpty = false := by
  match k, i, hg with
  | 0, 0, hg | 1, 0, hg | 2, 0, hg | 2, 1, hg | 3, 0, hg | 3, 1, hg | 3, 2, hg | 3, 3, hg | 4, 0, hg | 4, 1, hg | k + 5, 0, hg | k + 5, 1, hg | k + 5, 2, hg => cases hg; rw [ByteArray.toList_eq]; rfl
  | 0, i + 1, hg => simp [sg] at hg
  | 1, i + 1, hg => simp [sg] at hg
  | 2, i + 2, hg => simp [sg] at hg
  | 3, i + 4, hg => simp [sg] at hg
  | 4, i + 2, hg => simp [sg] at hg
  | k + 5, i + 3, hg => simp [sg] at hg
theorem bit_in (b : Bool) : InI (bit b) := by cases b <;> (unfold InI bit; omega)
theorem w64_in (a : Int) : InI (w64 a) := by unfold InI w64 wrap64; omega
theorem opDo_in (j : Nat) (a b : Int) : InI (opDo j a b) := by
  unfold opDo
  split <;> first | exact bit_in _ | exact w64_in _ | skip
  unfold quo
  split
  · unfold InI; omega
  · exact w64_in _
theorem signed_in : ∀ (l : List ByteArray) (v : Int), InI v → InI (signed l v)
  | [], v, h => h
  | g :: l, v, h => by
    show InI (signed1 g (signed l v))
    have := signed_in l v h
    unfold signed1
    split
    · exact bit_in _
    · split
      · exact w64_in _
      · exact this
theorem all_in {num val : ByteArray → Int × Bool} (hN : ∀ b, InI (num b).1) (hV : ∀ b, InI (val b).1) : ∀ m : Nat,
    (∀ lv S v T, binF num val m lv S = some (v, T) → InI v) ∧ (∀ lv v S v' T, InI v → loopF num val m lv v S = some (v', T) → InI v') ∧
    (∀ S v T, oneF num val m S = some (v, T) → InI v) ∧ (∀ S v T, operF num val m S = some (v, T) → InI v) := by
  intro m
  induction m with
  | zero =>
    refine ⟨fun lv S v T h => ?_, fun lv v S v' T hv h => ?_, fun S v T h => ?_, fun S v T h => ?_⟩
    · unfold binF at h; cases h
    · unfold loopF at h; cases h
    · unfold oneF at h; cases h
    · unfold operF at h; cases h
  | succ m ih =>
    obtain ⟨i1, i2, i3, i4⟩ := ih
    have z0 : InI 0 := by unfold InI; omega
    refine ⟨fun lv S v T h => ?_, fun lv v S v' T hv h => ?_, fun S v T h => ?_, fun S v T h => ?_⟩
    · unfold binF at h
      split at h
      · exact i3 _ _ _ h
      · split at h
        · cases h
        · rename_i e
          exact i2 _ _ _ _ _ (i1 _ _ _ _ e) h
    · unfold loopF at h
      split at h
      · cases h; exact hv
      · split at h
        · cases h; exact hv
        · split at h
          · cases h
          · exact i2 _ _ _ _ _ (opDo_in _ _ _) h
    · unfold oneF at h
      split at h
      · cases h
      · rename_i e
        cases h
        exact signed_in _ _ (i4 _ _ _ e)
    · unfold operF at h
      split at h
      · cases h; exact z0
      · split at h
        · cases h; exact z0
        · split at h
          · split at h
            · cases h
            · rename_i e
              split at h
              · cases h; exact i1 _ _ _ _ e
              · cases h; exact z0
          · split at h
            · split at h <;> cases h
              · exact hN _
              · exact z0
            · split at h
              · have e := Option.some.inj h
                have : v = (definedE val S.tl).1 := by rw [e]
                rw [this]
                unfold definedE
                obtain ⟨U, hU⟩ : ∃ U, (if isS S.tl [40] = true then S.tl.tl else S.tl) = U := ⟨_, rfl⟩
                rw [hU]
                dsimp only
                cases hl : U.l with
                | nil => exact z0
                | cons t r =>
                  dsimp only
                  by_cases hk : t.k = 1
                  · rw [if_pos hk]
                    split
                    · exact z0
                    · exact bit_in _
                  · rw [if_neg hk]
                    exact z0
              · split at h <;> cases h
                · exact hV _
                · exact z0
end Lx
theorem comp_at {k i : Nat} {g : ByteArray} (hk : k < 6) (hg : (Lx.sg k)[i]? = some g) (a b : Int) (ha : InI a) (w : World) : Calls Tryz.prog 104 #[.string g, .int .i64 a, .int .i64 b] w fun e w' => e = .returned (.int .i64 (Lx.opDo (Lx.sgBase k + i) a b)) ∧ w = w' := by
  match k, hk, i, hg with
  | 0, _, 0, hg => cases hg; exact comp_or a b w
  | 1, _, 0, hg => cases hg; exact comp_and a b w
  | 2, _, 0, hg => cases hg; exact comp_eq a b w
  | 2, _, 1, hg => cases hg; exact comp_ne a b w
  | 3, _, 0, hg => cases hg; exact comp_lt a b w
  | 3, _, 1, hg => cases hg; exact comp_le a b w
  | 3, _, 2, hg => cases hg; exact comp_gt a b w
  | 3, _, 3, hg => cases hg; exact comp_ge a b w
  | 4, _, 0, hg => cases hg; exact comp_add a b w
  | 4, _, 1, hg => cases hg; exact comp_sub a b w
  | 5, _, 0, hg => cases hg; exact comp_mul a b w
  | 5, _, 1, hg => cases hg; exact comp_quo a b w
  | 5, _, 2, hg => cases hg; exact comp_rem a b ha w
  | 0, _, i + 1, hg => simp [Lx.sg] at hg
  | 1, _, i + 1, hg => simp [Lx.sg] at hg
  | 2, _, i + 2, hg => simp [Lx.sg] at hg
  | 3, _, i + 4, hg => simp [Lx.sg] at hg
  | 4, _, i + 2, hg => simp [Lx.sg] at hg
  | 5, _, i + 3, hg => simp [Lx.sg] at hg
end Go.Proofs.YtjnafjgonoficaaGreatDoor
namespace Go.Proofs.YtjnafjgonoficaaGreatDoor
open Go.RowKit Go.Proofs.YtjnafjgonoficaaGreatDoorW.PrintWords
set_option linter.unusedVariables false
set_option linter.unusedSimpArgs false
theorem w7_heap (w : World) : (World.alloc (World.alloc (World.alloc (World.alloc (World.alloc (World.alloc (World.alloc w (Obj.cells #[Value.string { data := #[124, 124] }] 9)) (Obj.cells #[Value.string { data := #[38, 38] }] 9)) (Obj.cells #[Value.string { data := #[61, 61] }, Value.string { data := #[33, 61] }] 9)) (Obj.cells #[Value.string { data := #[60] }, Value.string { data := #[60, 61] }, Value.string { data := #[62] }, Value.string { data := #[62, 61] }] 9)) (Obj.cells #[Value.string { data := #[43] }, Value.string { data := #[45] }] 9)) (Obj.cells #[Value.string { data := #[42] }, Value.string { data := #[47] }, Value.string { data := #[37] }] 9)) (Obj.cells #[Value.slice (some { block := (World.heap w).size, off := 0 }) 1 1, Value.slice (some { block := (World.heap w).size + 1, off := 0 }) 1 1, Value.slice (some { block := (World.heap w).size + 1 + 1, off := 0 }) 2 2, Value.slice (some { block := (World.heap w).size + 1 + 1 + 1, off := 0 }) 4 4, Value.slice (some { block := (World.heap w).size + 1 + 1 + 1 + 1, off := 0 }) 2 2, Value.slice (some { block := (World.heap w).size + 1 + 1 + 1 + 1 + 1, off := 0 }) 3 3] 62)).heap = w.heap ++ #[(Obj.cells #[Value.string { data := #[124, 124] }] 9), (Obj.cells #[Value.string { data := #[38, 38] }] 9), (Obj.cells #[Value.string { data := #[61, 61] }, Value.string { data := #[33, 61] }] 9), (Obj.cells #[Value.string { data := #[60] }, Value.string { data := #[60, 61] }, Value.string { data := #[62] }, Value.string { data := #[62, 61] }] 9), (Obj.cells #[Value.string { data := #[43] }, Value.string { data := #[45] }] 9), (Obj.cells #[Value.string { data := #[42] }, Value.string { data := #[47] }, Value.string { data := #[37] }] 9), (Obj.cells #[Value.slice (some { block := (World.heap w).size, off := 0 }) 1 1, Value.slice (some { block := (World.heap w).size + 1, off := 0 }) 1 1, Value.slice (some { block := (World.heap w).size + 1 + 1, off := 0 }) 2 2, Value.slice (some { block := (World.heap w).size + 1 + 1 + 1, off := 0 }) 4 4, Value.slice (some { block := (World.heap w).size + 1 + 1 + 1 + 1, off := 0 }) 2 2, Value.slice (some { block := (World.heap w).size + 1 + 1 + 1 + 1 + 1, off := 0 }) 3 3] 62)] := by
  apply Array.ext'
  simp only [World.alloc, Array.toList_push, Array.toList_append, List.append_assoc]
  rfl
theorem w7_grown (w : World) : w.grownBy (World.alloc (World.alloc (World.alloc (World.alloc (World.alloc (World.alloc (World.alloc w (Obj.cells #[Value.string { data := #[124, 124] }] 9)) (Obj.cells #[Value.string { data := #[38, 38] }] 9)) (Obj.cells #[Value.string { data := #[61, 61] }, Value.string { data := #[33, 61] }] 9)) (Obj.cells #[Value.string { data := #[60] }, Value.string { data := #[60, 61] }, Value.string { data := #[62] }, Value.string { data := #[62, 61] }] 9)) (Obj.cells #[Value.string { data := #[43] }, Value.string { data := #[45] }] 9)) (Obj.cells #[Value.string { data := #[42] }, Value.string { data := #[47] }, Value.string { data := #[37] }] 9)) (Obj.cells #[Value.slice (some { block := (World.heap w).size, off := 0 }) 1 1, Value.slice (some { block := (World.heap w).size + 1, off := 0 }) 1 1, Value.slice (some { block := (World.heap w).size + 1 + 1, off := 0 }) 2 2, Value.slice (some { block := (World.heap w).size + 1 + 1 + 1, off := 0 }) 4 4, Value.slice (some { block := (World.heap w).size + 1 + 1 + 1 + 1, off := 0 }) 2 2, Value.slice (some { block := (World.heap w).size + 1 + 1 + 1 + 1 + 1, off := 0 }) 3 3] 62)) none := by
  repeat (first | exact World.grownBy.refl _ _ | (refine grown_trans ?_ (World.grownBy_alloc _ _ _)))
/-- Where the levels' signs lie. -/
def Sgs (w1 : World) (wb sb : Nat) : Prop := ∀ k : Nat, k < 6 → w1.cell? ⟨sb, k, none⟩ = some (.slice (some ⟨wb + k, 0, none⟩) (Lx.sg k).length (Lx.sg k).length) ∧ ∀ (i : Nat) (g : ByteArray), (Lx.sg k)[i]? = some g → w1.cell? ⟨wb + k, i, none⟩ = some (.string g)
theorem w7_block (w : World) (j : Nat) (o : Obj) (h : #[(Obj.cells #[Value.string { data := #[124, 124] }] 9), (Obj.cells #[Value.string { data := #[38, 38] }] 9), (Obj.cells #[Value.string { data := #[61, 61] }, Value.string { data := #[33, 61] }] 9), (Obj.cells #[Value.string { data := #[60] }, Value.string { data := #[60, 61] }, Value.string { data := #[62] }, Value.string { data := #[62, 61] }] 9), (Obj.cells #[Value.string { data := #[43] }, Value.string { data := #[45] }] 9), (Obj.cells #[Value.string { data := #[42] }, Value.string { data := #[47] }, Value.string { data := #[37] }] 9), (Obj.cells #[Value.slice (some { block := (World.heap w).size, off := 0 }) 1 1, Value.slice (some { block := (World.heap w).size + 1, off := 0 }) 1 1, Value.slice (some { block := (World.heap w).size + 1 + 1, off := 0 }) 2 2, Value.slice (some { block := (World.heap w).size + 1 + 1 + 1, off := 0 }) 4 4, Value.slice (some { block := (World.heap w).size + 1 + 1 + 1 + 1, off := 0 }) 2 2, Value.slice (some { block := (World.heap w).size + 1 + 1 + 1 + 1 + 1, off := 0 }) 3 3] 62)][j]? = some o) : (World.alloc (World.alloc (World.alloc (World.alloc (World.alloc (World.alloc (World.alloc w (Obj.cells #[Value.string { data := #[124, 124] }] 9)) (Obj.cells #[Value.string { data := #[38, 38] }] 9)) (Obj.cells #[Value.string { data := #[61, 61] }, Value.string { data := #[33, 61] }] 9)) (Obj.cells #[Value.string { data := #[60] }, Value.string { data := #[60, 61] }, Value.string { data := #[62] }, Value.string { data := #[62, 61] }] 9)) (Obj.cells #[Value.string { data := #[43] }, Value.string { data := #[45] }] 9)) (Obj.cells #[Value.string { data := #[42] }, Value.string { data := #[47] }, Value.string { data := #[37] }] 9)) (Obj.cells #[Value.slice (some { block := (World.heap w).size, off := 0 }) 1 1, Value.slice (some { block := (World.heap w).size + 1, off := 0 }) 1 1, Value.slice (some { block := (World.heap w).size + 1 + 1, off := 0 }) 2 2, Value.slice (some { block := (World.heap w).size + 1 + 1 + 1, off := 0 }) 4 4, Value.slice (some { block := (World.heap w).size + 1 + 1 + 1 + 1, off := 0 }) 2 2, Value.slice (some { block := (World.heap w).size + 1 + 1 + 1 + 1 + 1, off := 0 }) 3 3] 62)).heap[w.heap.size + j]? = some o := by
  rw [w7_heap, Array.getElem?_append_right (Nat.le_add_right _ _), Nat.add_sub_cancel_left]
  exact h
theorem w7_sgs (w : World) : Sgs (World.alloc (World.alloc (World.alloc (World.alloc (World.alloc (World.alloc (World.alloc w (Obj.cells #[Value.string { data := #[124, 124] }] 9)) (Obj.cells #[Value.string { data := #[38, 38] }] 9)) (Obj.cells #[Value.string { data := #[61, 61] }, Value.string { data := #[33, 61] }] 9)) (Obj.cells #[Value.string { data := #[60] }, Value.string { data := #[60, 61] }, Value.string { data := #[62] }, Value.string { data := #[62, 61] }] 9)) (Obj.cells #[Value.string { data := #[43] }, Value.string { data := #[45] }] 9)) (Obj.cells #[Value.string { data := #[42] }, Value.string { data := #[47] }, Value.string { data := #[37] }] 9)) (Obj.cells #[Value.slice (some { block := (World.heap w).size, off := 0 }) 1 1, Value.slice (some { block := (World.heap w).size + 1, off := 0 }) 1 1, Value.slice (some { block := (World.heap w).size + 1 + 1, off := 0 }) 2 2, Value.slice (some { block := (World.heap w).size + 1 + 1 + 1, off := 0 }) 4 4, Value.slice (some { block := (World.heap w).size + 1 + 1 + 1 + 1, off := 0 }) 2 2, Value.slice (some { block := (World.heap w).size + 1 + 1 + 1 + 1 + 1, off := 0 }) 3 3] 62)) w.heap.size (w.heap.size + 6) := by
  intro k hk
  have b6 := w7_block w 6 _ rfl
  match k, hk with
  | 0, _ => 
    refine ⟨by rw [blk_cell b6]; rfl, fun i g hg => ?_⟩
    rw [blk_cell (w7_block w 0 _ rfl)]
    match i, hg with
    | 0, hg => cases hg; rfl
    | i + 1, hg => simp [Lx.sg] at hg
  | 1, _ =>
    refine ⟨by rw [blk_cell b6]; rfl, fun i g hg => ?_⟩
    rw [blk_cell (w7_block w 1 _ rfl)]
    match i, hg with
    | 0, hg => cases hg; rfl
    | i + 1, hg => simp [Lx.sg] at hg
  | 2, _ =>
    refine ⟨by rw [blk_cell b6]; rfl, fun i g hg => ?_⟩
    rw [blk_cell (w7_block w 2 _ rfl)]
    match i, hg with
    | 0, hg => cases hg; rfl
    | 1, hg => cases hg; rfl
    | i + 2, hg => simp [Lx.sg] at hg
  | 3, _ =>
    refine ⟨by rw [blk_cell b6]; rfl, fun i g hg => ?_⟩
    rw [blk_cell (w7_block w 3 _ rfl)]
    match i, hg with
    | 0, hg => cases hg; rfl
    | 1, hg => cases hg; rfl
    | 2, hg => cases hg; rfl
    | 3, hg => cases hg; rfl
    | i + 4, hg => simp [Lx.sg] at hg
  | 4, _ =>
    refine ⟨by rw [blk_cell b6]; rfl, fun i g hg => ?_⟩
    rw [blk_cell (w7_block w 4 _ rfl)]
    match i, hg with
    | 0, hg => cases hg; rfl
    | 1, hg => cases hg; rfl
    | i + 2, hg => simp [Lx.sg] at hg
  | 5, _ =>
    refine ⟨by rw [blk_cell b6]; rfl, fun i g hg => ?_⟩
    rw [blk_cell (w7_block w 5 _ rfl)]
    match i, hg with
    | 0, hg => cases hg; rfl
    | 1, hg => cases hg; rfl
    | 2, hg => cases hg; rfl
    | i + 3, hg => simp [Lx.sg] at hg
theorem w7_old (w : World) {a : Addr} {v : Value} (h : w.cell? a = some v) : (World.alloc (World.alloc (World.alloc (World.alloc (World.alloc (World.alloc (World.alloc w (Obj.cells #[Value.string { data := #[124, 124] }] 9)) (Obj.cells #[Value.string { data := #[38, 38] }] 9)) (Obj.cells #[Value.string { data := #[61, 61] }, Value.string { data := #[33, 61] }] 9)) (Obj.cells #[Value.string { data := #[60] }, Value.string { data := #[60, 61] }, Value.string { data := #[62] }, Value.string { data := #[62, 61] }] 9)) (Obj.cells #[Value.string { data := #[43] }, Value.string { data := #[45] }] 9)) (Obj.cells #[Value.string { data := #[42] }, Value.string { data := #[47] }, Value.string { data := #[37] }] 9)) (Obj.cells #[Value.slice (some { block := (World.heap w).size, off := 0 }) 1 1, Value.slice (some { block := (World.heap w).size + 1, off := 0 }) 1 1, Value.slice (some { block := (World.heap w).size + 1 + 1, off := 0 }) 2 2, Value.slice (some { block := (World.heap w).size + 1 + 1 + 1, off := 0 }) 4 4, Value.slice (some { block := (World.heap w).size + 1 + 1 + 1 + 1, off := 0 }) 2 2, Value.slice (some { block := (World.heap w).size + 1 + 1 + 1 + 1 + 1, off := 0 }) 3 3] 62)).cell? a = some v := (w7_grown w).cell h (by simp)
theorem Sgs.grown {w w' : World} {wb sb x : Nat} (h : Sgs w wb sb) (hx : x < wb) (hs : x < sb) (hg : w.grownBy w' (some x)) : Sgs w' wb sb := by
  intro k hk
  obtain ⟨h1, h2⟩ := h k hk
  exact ⟨hg.cell h1 (by simp; omega), fun i g e => hg.cell (h2 i g e) (by simp; omega)⟩
theorem sg_len (k : Nat) : (Lx.sg k).length ≤ 4 := by
  unfold Lx.sg
  split <;> simp
theorem loop_bad {num val : ByteArray → Int × Bool} {m lv : Nat} {v1 v : Int} {T1 T : Lx.ES} (hb : T1.bad = true) (h : Lx.loopF num val m lv v1 T1 = some (v, T)) : T.bad = true := by
  cases m with
  | zero => unfold Lx.loopF at h; cases h
  | succ m => unfold Lx.loopF at h; rw [if_pos hb] at h; cases h; exact hb
set_option maxRecDepth 100000 in
set_option maxHeartbeats 8000000 in
theorem level_step {num val : ByteArray → Int × Bool} {w0 : World} {A : Option Addr} {n c : Nat} {dv : Value} {L : List Lx.Tok} (hn5 : n ≤ 100000) (hNI : ∀ b, InI (num b).1) (hVI : ∀ b, InI (val b).1) (m : Nat) (IHu : ∀ k, k < m → UnC num val w0 A n c dv L k) (IH : ∀ k, k < m → LvC num val w0 A n c dv L k) : LvC num val w0 A n c dv L m := by
  intro k S T v w hk6 hf hb h
  cases m with
  | zero => unfold Lx.binF at hf; cases hf
  | succ m =>
  unfold Lx.binF at hf
  have HR := Aside0.mk h
  obtain ⟨-, i, hi, hd, hbk, hw⟩ := h
  rw [hb] at hbk
  have hxl := blk_lt hbk
  have y2 : w.cell? ⟨w0.heap.size, 2, none⟩ = some (.bool false) := by rw [blk_cell hbk]; rfl
  have HB := Aside0.mk hb
  have HIU := Aside0.mk IHu
  have HIL := Aside0.mk IH
  clear hbk hw hd hb IHu IH hi i
  have hg7 := w7_grown w
  have hr7 := HR.out.grown hg7
  have y27 := w7_old w y2
  by_cases hk : k = 6
  · subst hk
    rw [if_pos rfl] at hf
    have hu := HIU.out m (Nat.lt_succ_self m) S T v (World.alloc (World.alloc (World.alloc (World.alloc (World.alloc (World.alloc (World.alloc w (Obj.cells #[Value.string { data := #[124, 124] }] 9)) (Obj.cells #[Value.string { data := #[38, 38] }] 9)) (Obj.cells #[Value.string { data := #[61, 61] }, Value.string { data := #[33, 61] }] 9)) (Obj.cells #[Value.string { data := #[60] }, Value.string { data := #[60, 61] }, Value.string { data := #[62] }, Value.string { data := #[62, 61] }] 9)) (Obj.cells #[Value.string { data := #[43] }, Value.string { data := #[45] }] 9)) (Obj.cells #[Value.string { data := #[42] }, Value.string { data := #[47] }, Value.string { data := #[37] }] 9)) (Obj.cells #[Value.slice (some { block := (World.heap w).size, off := 0 }) 1 1, Value.slice (some { block := (World.heap w).size + 1, off := 0 }) 1 1, Value.slice (some { block := (World.heap w).size + 1 + 1, off := 0 }) 2 2, Value.slice (some { block := (World.heap w).size + 1 + 1 + 1, off := 0 }) 4 4, Value.slice (some { block := (World.heap w).size + 1 + 1 + 1 + 1, off := 0 }) 2 2, Value.slice (some { block := (World.heap w).size + 1 + 1 + 1 + 1 + 1, off := 0 }) 3 3] 62)) hf HB.out hr7
    have HU := Aside0.mk hu
    have HG7 := Aside0.mk hg7
    clear hf hu hg7 hr7 HIU HIL
    go_enter Tryz.func87, Tryz.ntmps87
    go_wp2_with (first | (go_at_call 102; (refine HU.out.mono ?_); rintro e w2 ⟨v', T', rfl, hrc, hg, hsm⟩; have HR2 := Aside0.mk hrc; have HG2 := Aside0.mk hg; have HSM := Aside0.mk hsm; clear hrc hg hsm))
    go_ret
    exact ⟨_, T', rfl, HR2.out, grown_trans (grown_any HG7.out) HG2.out, HSM.out⟩
  · rw [if_neg (by omega)] at hf
    have hk6 : k < 6 := by omega
    have hki : ((k : Int) == 6) = false := beq_eq_false_iff_ne.mpr (by omega)
    cases hbf : Lx.binF num val m (k + 1 + 1) S with
    | none => rw [hbf] at hf; cases hf
    | some q =>
    obtain ⟨v1, T1⟩ := q
    rw [hbf] at hf
    dsimp only at hf
    have HF := Aside0.mk hf
    have HBF := Aside0.mk hbf
    have HLV := Aside0.mk (show Calls Tryz.prog 87 #[.pointer (some ⟨w0.heap.size, 0, none⟩), .int .i64 ((k : Int) + 1)] (World.alloc (World.alloc (World.alloc (World.alloc (World.alloc (World.alloc (World.alloc w (Obj.cells #[Value.string { data := #[124, 124] }] 9)) (Obj.cells #[Value.string { data := #[38, 38] }] 9)) (Obj.cells #[Value.string { data := #[61, 61] }, Value.string { data := #[33, 61] }] 9)) (Obj.cells #[Value.string { data := #[60] }, Value.string { data := #[60, 61] }, Value.string { data := #[62] }, Value.string { data := #[62, 61] }] 9)) (Obj.cells #[Value.string { data := #[43] }, Value.string { data := #[45] }] 9)) (Obj.cells #[Value.string { data := #[42] }, Value.string { data := #[47] }, Value.string { data := #[37] }] 9)) (Obj.cells #[Value.slice (some { block := (World.heap w).size, off := 0 }) 1 1, Value.slice (some { block := (World.heap w).size + 1, off := 0 }) 1 1, Value.slice (some { block := (World.heap w).size + 1 + 1, off := 0 }) 2 2, Value.slice (some { block := (World.heap w).size + 1 + 1 + 1, off := 0 }) 4 4, Value.slice (some { block := (World.heap w).size + 1 + 1 + 1 + 1, off := 0 }) 2 2, Value.slice (some { block := (World.heap w).size + 1 + 1 + 1 + 1 + 1, off := 0 }) 3 3] 62)) (PostR w0 A n c dv L (World.alloc (World.alloc (World.alloc (World.alloc (World.alloc (World.alloc (World.alloc w (Obj.cells #[Value.string { data := #[124, 124] }] 9)) (Obj.cells #[Value.string { data := #[38, 38] }] 9)) (Obj.cells #[Value.string { data := #[61, 61] }, Value.string { data := #[33, 61] }] 9)) (Obj.cells #[Value.string { data := #[60] }, Value.string { data := #[60, 61] }, Value.string { data := #[62] }, Value.string { data := #[62, 61] }] 9)) (Obj.cells #[Value.string { data := #[43] }, Value.string { data := #[45] }] 9)) (Obj.cells #[Value.string { data := #[42] }, Value.string { data := #[47] }, Value.string { data := #[37] }] 9)) (Obj.cells #[Value.slice (some { block := (World.heap w).size, off := 0 }) 1 1, Value.slice (some { block := (World.heap w).size + 1, off := 0 }) 1 1, Value.slice (some { block := (World.heap w).size + 1 + 1, off := 0 }) 2 2, Value.slice (some { block := (World.heap w).size + 1 + 1 + 1, off := 0 }) 4 4, Value.slice (some { block := (World.heap w).size + 1 + 1 + 1 + 1, off := 0 }) 2 2, Value.slice (some { block := (World.heap w).size + 1 + 1 + 1 + 1 + 1, off := 0 }) 3 3] 62)) v1 T1) from HIL.out m (Nat.lt_succ_self m) (k + 1) S T1 v1 (World.alloc (World.alloc (World.alloc (World.alloc (World.alloc (World.alloc (World.alloc w (Obj.cells #[Value.string { data := #[124, 124] }] 9)) (Obj.cells #[Value.string { data := #[38, 38] }] 9)) (Obj.cells #[Value.string { data := #[61, 61] }, Value.string { data := #[33, 61] }] 9)) (Obj.cells #[Value.string { data := #[60] }, Value.string { data := #[60, 61] }, Value.string { data := #[62] }, Value.string { data := #[62, 61] }] 9)) (Obj.cells #[Value.string { data := #[43] }, Value.string { data := #[45] }] 9)) (Obj.cells #[Value.string { data := #[42] }, Value.string { data := #[47] }, Value.string { data := #[37] }] 9)) (Obj.cells #[Value.slice (some { block := (World.heap w).size, off := 0 }) 1 1, Value.slice (some { block := (World.heap w).size + 1, off := 0 }) 1 1, Value.slice (some { block := (World.heap w).size + 1 + 1, off := 0 }) 2 2, Value.slice (some { block := (World.heap w).size + 1 + 1 + 1, off := 0 }) 4 4, Value.slice (some { block := (World.heap w).size + 1 + 1 + 1 + 1, off := 0 }) 2 2, Value.slice (some { block := (World.heap w).size + 1 + 1 + 1 + 1 + 1, off := 0 }) 3 3] 62)) (by omega) hbf HB.out hr7)
    have hsg := w7_sgs w
    have HSG := Aside0.mk hsg
    have HG7 := Aside0.mk hg7
    have HXL := Aside0.mk hxl
    clear hf hbf hsg hg7 hr7 HIU hk
    go_enter Tryz.func87, Tryz.ntmps87
    go_wp2_with (first | (go_at_call 87; (refine HLV.out.mono ?_); rintro e w2 ⟨v1', T1', rfl, hrc, hg, hsm⟩; have HR2 := Aside0.mk hrc; have HG2 := Aside0.mk (grown_trans (grown_any HG7.out) hg); have HSM := Aside0.mk hsm; have HSG2 := Aside0.mk (HSG.out.grown HXL.out (by have := HXL.out; omega) hg); clear hrc hg hsm))
    obtain ⟨sb, hsb⟩ : ∃ sb, w.heap.size + 1 + 1 + 1 + 1 + 1 + 1 = sb := ⟨_, rfl⟩
    obtain ⟨wb, hwb⟩ : ∃ wb, w.heap.size = wb := ⟨_, rfl⟩
    rw [hsb]
    have hsg2 := HSG2.out
    rw [show w.heap.size + 6 = sb from hsb, hwb] at hsg2
    have HSG2 := Aside0.mk hsg2
    have hwx : w0.heap.size < wb := by rw [← hwb]; exact HXL.out
    have hsx : w0.heap.size < sb := by have := HXL.out; omega
    clear hsg2 HSG hsb hwb y2 y27 hxl HLV
    go_loopg [6] m (fun kq v6 W => ∃ (S' : Lx.ES) (v' : Int), v6 = .int .i64 v' ∧ Aside0 ((S'.bad = true ∧ T.bad = true) ∨ (S'.bad = false ∧ kq ≤ m ∧ InI v' ∧ Lx.loopF num val kq (k + 1) v' S' = some (v, T))) ∧ Aside0 (RC w0 W A n c dv L S') ∧ Aside0 (w.grownBy W (some w0.heap.size)) ∧ Aside0 (Sgs W wb sb))
    case atStart =>
      refine ⟨T1', v1', rfl, ⟨?_⟩, HR2, HG2, HSG2⟩
      rcases HSM.out with ⟨e1, e2⟩ | ⟨e1, e2, e3⟩
      · exact .inl ⟨e2, loop_bad e1 HF.out⟩
      · rw [e2, e3]
        exact .inr ⟨e1, Nat.le_refl _, (Lx.all_in hNI hVI m).1 _ _ _ _ HBF.out, HF.out⟩
    case round =>
      obtain ⟨S1, u1, rfl, HJ, HR3, HG3, HSG3⟩ := hrel
      have hrc := HR3.out
      obtain ⟨-, i3, hi3, hd3, hbk3, hw3⟩ := hrc
      rcases HJ.out with ⟨e1, e2⟩ | ⟨e1, e2, e3, e4⟩
      · rw [e1] at hbk3
        have hxl3 := blk_lt hbk3
        have z2 : wr.cell? ⟨w0.heap.size, 2, none⟩ = some (.bool true) := by rw [blk_cell hbk3]; rfl
        clear hbk3 hw3 hd3 hi3
        have E1 := Aside0.mk e1
        have E2 := Aside0.mk e2
        clear e1 e2
        go_wp2_with fail
        go_ret
        exact ⟨_, S1, rfl, HR3.out, HG3.out, .inl ⟨E2.out, E1.out⟩⟩
      · rw [e1] at hbk3
        have hxl3 := blk_lt hbk3
        have z2 : wr.cell? ⟨w0.heap.size, 2, none⟩ = some (.bool false) := by rw [blk_cell hbk3]; rfl
        obtain ⟨M, hM⟩ : ∃ M, gk = M := ⟨_, rfl⟩
        rw [hM] at e2 e4
        have HM := Aside0.mk hM
        cases M with
        | zero => unfold Lx.loopF at e4; cases e4
        | succ M =>
        unfold Lx.loopF at e4
        rw [if_neg (by rw [e1]; simp)] at e4
        have E1 := Aside0.mk e1
        have E2 := Aside0.mk e2
        have E3 := Aside0.mk e3
        have E4 := Aside0.mk e4
        clear hM
        have HNC := Aside0.mk (And.intro hn5 HXL.out)
        clear hbk3 hw3 hd3 hi3 e1 e2 e3 e4
        obtain ⟨nk, hnk⟩ : ∃ nk, (Lx.sg k).length = nk := ⟨_, rfl⟩
        have HNK := Aside0.mk hnk
        have hnk4 : nk ≤ 4 := by rw [← hnk]; exact sg_len k
        go_wp2_with fail
        go_loopg [7, 8] nk (fun kq v7 v8 W => ∃ (j : Nat) (o : ByteArray), v7 = .string o ∧ v8 = .int .i64 j ∧ Aside0 (j ≤ nk ∧ kq = nk - j) ∧ Aside0 ((o = ⟨#[]⟩ ∧ (∀ (j' : Nat) (g : ByteArray), j' < j → (Lx.sg k)[j']? = some g → Lx.isS S1 g.toList = false) ∧ RC w0 W A n c dv L S1) ∨ (∃ j0 : Nat, j = j0 + 1 ∧ (Lx.sg k)[j0]? = some o ∧ Lx.isS S1 o.toList = true ∧ (∀ (j' : Nat) (g : ByteArray), j' < j0 → (Lx.sg k)[j']? = some g → Lx.isS S1 g.toList = false) ∧ RC w0 W A n c dv L S1.tl)) ∧ Aside0 (w.grownBy W (some w0.heap.size)) ∧ Aside0 (Sgs W wb sb))
        case atStart => exact ⟨0, ⟨#[]⟩, rfl, rfl, ⟨Nat.zero_le _, rfl⟩, ⟨.inl ⟨rfl, fun j' g h => absurd h (Nat.not_lt_zero _), HR3.out⟩⟩, HG3, HSG3⟩
        case round =>
          obtain ⟨j, o, rfl, rfl, HI, HO, HG4, HSG4⟩ := hrel
          have hj := HI.out.1
          obtain ⟨sk, hsk⟩ := HSG4.out k hk6
          rw [HNK.out] at sk
          have hk0 : (0 : Int) ≤ (k : Int) := Int.natCast_nonneg _
          have hk6i : (k : Int) < 6 := by omega
          have hj0 : (0 : Int) ≤ (j : Int) := Int.natCast_nonneg _
          rcases HO.out with ⟨rfl, hno, hrc⟩ | ⟨j0, hjj, hg0, hs0, hno, hrc⟩
          · by_cases hlt : j < nk
            · obtain ⟨g, hg⟩ : ∃ g, (Lx.sg k)[j]? = some g := ⟨_, List.getElem?_eq_getElem (by have := HNK.out; omega)⟩
              have sg1 := hsk j g hg
              have hjn : (j : Int) < (nk : Int) := by omega
              obtain ⟨b, hb4⟩ : ∃ b, Lx.isS S1 g.toList = b := ⟨_, rfl⟩
              have htk := taker_calls w0 wr A n c dv L S1 g.toList g rfl HNC.out.1 hrc
              rw [show Lx.isR S1 g.toList = b by unfold Lx.isR; rw [E1.out, hb4]; rfl] at htk
              have HTK := Aside0.mk htk
              have HB4 := Aside0.mk hb4
              have HNO := Aside0.mk hno
              have HGG := Aside0.mk hg
              clear htk hb4 hno hrc hg hsk HO
              go_wp2_with (first | (go_at_call 103; (with_reducible refine HTK.out.mono ?_); rintro e w5 ⟨rfl, hrc, hg⟩; have HR5 := Aside0.mk hrc; have hsg5 := HSG4.out.grown hwx hsx hg; obtain ⟨sk, hsk⟩ := hsg5 k hk6; rw [HNK.out] at sk; have sg1 := hsk j g HGG.out; have HSG5 := Aside0.mk hsg5; have HG5 := Aside0.mk (grown_trans HG4.out hg); clear hrc hg hsk hsg5))
              · have hb5 : b = true := by first | assumption | (rename_i qq; simpa using qq)
                subst hb5
                go_roundg (nk - (j + 1))
                case measure => have := HI.out; omega
                case rel => exact ⟨j + 1, g, rfl, by go_num, ⟨by omega, rfl⟩, ⟨.inr ⟨j, rfl, HGG.out, HB4.out, HNO.out, HR5.out⟩⟩, HG5, HSG5⟩
              · have hb5 : b = false := by first | assumption | (rename_i qq; simpa using qq)
                subst hb5
                go_roundg (nk - (j + 1))
                case measure => have := HI.out; omega
                case rel =>
                  refine ⟨j + 1, ⟨#[]⟩, rfl, by go_num, ⟨by omega, rfl⟩, ⟨.inl ⟨rfl, fun j' g' h1 h2 => ?_, HR5.out⟩⟩, HG5, HSG5⟩
                  by_cases h3 : j' < j
                  · exact HNO.out j' g' h3 h2
                  · obtain rfl : j' = j := by omega
                    rw [HGG.out] at h2
                    cases h2
                    exact HB4.out
            · obtain rfl : j = nk := by omega
              have hfn := Lx.find_none (S := S1) hk6 (fun i g h => hno i g (by have := (List.getElem?_eq_some_iff.mp h).1; rw [HNK.out] at this; exact this) h)
              have e4 := E4.out
              rw [hfn] at e4
              have E5 := Aside0.mk e4
              have HRC := Aside0.mk hrc
              clear hfn e4 hno hrc hsk HO E4
              go_wp2_with fail
              go_ret
              refine ⟨_, S1, rfl, HRC.out, HG4.out, .inr ?_⟩
              cases E5.out
              exact ⟨E1.out, rfl, rfl⟩
          · have hfs := Lx.find_some (S := S1) hk6 hg0 hs0 hno
            have e4 := E4.out
            rw [hfs] at e4
            dsimp only at e4
            cases hbf : Lx.binF num val M (k + 1 + 1) S1.tl with
            | none => rw [hbf] at e4; cases e4
            | some q =>
            obtain ⟨u2, T2⟩ := q
            rw [hbf] at e4
            dsimp only at e4
            have HLV := Aside0.mk (show Calls Tryz.prog 87 #[.pointer (some ⟨w0.heap.size, 0, none⟩), .int .i64 ((k : Int) + 1)] wr (PostR w0 A n c dv L wr u2 T2) from HIL.out M (by have := E2.out; omega) (k + 1) S1.tl T2 u2 wr (by omega) hbf E1.out hrc)
            have HCP := Aside0.mk (fun (b : Int) (W : World) => comp_at hk6 hg0 u1 b E3.out W)
            have hoe := Lx.sg_ne hg0
            have E5 := Aside0.mk e4
            have HJ0 := Aside0.mk hjj
            clear hfs e4 hno hrc hsk HO E4 hbf hg0 hs0 hjj
            have hji : decide (j < nk) = decide (j < nk) := rfl
            go_wp2_with (first | (go_at_call 87; (refine HLV.out.mono ?_); rintro e w6 ⟨u2', T2', rfl, hrc, hg, hsm⟩; have HR6 := Aside0.mk hrc; have HSM6 := Aside0.mk hsm; have HSG6 := Aside0.mk (HSG4.out.grown hwx hsx hg); have HG6 := Aside0.mk (grown_trans HG4.out hg); clear hrc hg hsm) | (go_at_call 104; (refine (HCP.out _ _).mono ?_); rintro e w7 ⟨rfl, rfl⟩))
            · go_roundg M
              case measure => have := HM.out; omega
              case rel =>
                refine ⟨T2', _, rfl, ⟨?_⟩, HR6, HG6, HSG6⟩
                rcases HSM6.out with ⟨q1, q2⟩ | ⟨q1, q2, q3⟩
                · exact .inl ⟨q2, loop_bad q1 E5.out⟩
                · rw [q2, q3]
                  exact .inr ⟨q1, by have := E2.out; omega, Lx.opDo_in _ _ _, E5.out⟩
            · go_roundg M
              case measure => have := HM.out; omega
              case rel =>
                refine ⟨T2', _, rfl, ⟨?_⟩, HR6, HG6, HSG6⟩
                rcases HSM6.out with ⟨q1, q2⟩ | ⟨q1, q2, q3⟩
                · exact .inl ⟨q2, loop_bad q1 E5.out⟩
                · rw [q2, q3]
                  exact .inr ⟨q1, by have := E2.out; omega, Lx.opDo_in _ _ _, E5.out⟩
end Go.Proofs.YtjnafjgonoficaaGreatDoor
namespace Go.Proofs.YtjnafjgonoficaaGreatDoor
open Go.RowKit Go.Proofs.YtjnafjgonoficaaGreatDoorW.PrintWords
set_option linter.unusedVariables false
set_option linter.unusedSimpArgs false
theorem calc_all {num val : ByteArray → Int × Bool} {P : Lx.Tok → Prop} {w0 : World} {A : Option Addr} {n c : Nat} {dv : Value} {L : List Lx.Tok} (hn5 : n ≤ 100000) (hNI : ∀ b, InI (num b).1) (hVI : ∀ b, InI (val b).1) (hE : EnvR num val P w0 A n c dv L) (m : Nat) :
    UnC num val w0 A n c dv L m ∧ PrC num val w0 A n c dv L m ∧ LvC num val w0 A n c dv L m := by
  induction m using Nat.strongRecOn with
  | ind m ih =>
    exact ⟨unary_step hn5 m (fun k hk => (ih k hk).2.1), primary_step hn5 hE m (fun k hk => (ih k hk).2.2), level_step hn5 hNI hVI m (fun k hk => (ih k hk).1) (fun k hk => (ih k hk).2.2)⟩
theorem same_end {T T' : Lx.ES} {v v' : Int} {R : Int × Bool} (hs : Same T T' v v') (hR : (if (T.bad || !T.l.isEmpty) = true then (0, false) else (v, true)) = R) (b : Bool) (hb : (T'.bad || !T'.l.isEmpty) = b) : (b = true → R = (0, false)) ∧ (b = false → R = (v', true)) := by
  rcases hs with ⟨e1, e2⟩ | ⟨e1, rfl, rfl⟩
  · rw [e2, Bool.true_or] at hb
    rw [e1, Bool.true_or, if_pos rfl] at hR
    exact ⟨fun _ => hR.symm, fun h => by rw [← hb] at h; cases h⟩
  · rw [hb] at hR
    cases b
    · exact ⟨(fun h => by cases h), fun _ => hR.symm⟩
    · exact ⟨fun _ => hR.symm, (fun h => by cases h)⟩
theorem end_at {i n : Nat} {L : List Lx.Tok} {l : List Lx.Tok} (hl : L.length = n) (hi : i ≤ n) (h : l = L.drop i) : (!l.isEmpty) = decide ((i : Int) ≠ (n : Int)) := by
  subst h
  by_cases e : i = n
  · subst e
    rw [List.drop_eq_nil_of_le (by omega)]
    simp
  · rw [decide_eq_true (by omega)]
    cases hd : L.drop i with
    | nil => exact absurd (nil_at hl hi hd) e
    | cons a b => rfl
set_option maxRecDepth 100000 in
set_option maxHeartbeats 4000000 in
theorem refeval_calls {num val : ByteArray → Int × Bool} {P : Lx.Tok → Prop} (w : World) (A : Option Addr) (n c : Nat) (DA : Option Addr) (DN DC : Nat) (L : List Lx.Tok) (m : Nat) (R : Int × Bool) (hT : Tks w (.slice A n c) L) (hn5 : n ≤ 100000) (hNI : ∀ b, InI (num b).1) (hVI : ∀ b, InI (val b).1) (hE : EnvR num val P w A n c (.slice DA DN DC) L) (hR : Lx.evalF num val m L = some R) :
    Calls Tryz.prog 52 #[.slice A n c, (.slice DA DN DC)] w fun e w' => e = .returned (.tuple #[.int .i64 R.1, .bool R.2]) ∧ Below w.heap.size w w' := by
  unfold Lx.evalF at hR
  cases hb : Lx.binF num val m 1 ⟨L, false⟩ with
  | none => rw [hb] at hR; cases hR
  | some q =>
  obtain ⟨v, T⟩ := q
  rw [hb] at hR
  dsimp only at hR
  have hR : (if (T.bad || !T.l.isEmpty) = true then (0, false) else (v, true)) = R := by
    split <;> rename_i e
    · rw [if_pos e] at hR; exact Option.some.inj hR
    · rw [if_neg e] at hR; exact Option.some.inj hR
  have HR := Aside0.mk hR
  have hrc : RC w (w.alloc (.cells #[.slice A n c, .int .i64 0, .bool false, (.slice DA DN DC)] 124)) A n c (.slice DA DN DC) L ⟨L, false⟩ := ⟨hT, 0, Nat.zero_le _, rfl, blk_new w _, (Below.refl _ _).alloc (Nat.le_refl _) _⟩
  have hlv := (calc_all hn5 hNI hVI hE m).2.2 0 ⟨L, false⟩ T v _ (by omega) hb rfl hrc
  have HLV := Aside0.mk (show Calls Tryz.prog 87 #[.pointer (some ⟨w.heap.size, 0, none⟩), .int .i64 0] (w.alloc (.cells #[.slice A n c, .int .i64 0, .bool false, (.slice DA DN DC)] 124)) (PostR w A n c (.slice DA DN DC) L (w.alloc (.cells #[.slice A n c, .int .i64 0, .bool false, (.slice DA DN DC)] 124)) v T) from hlv)
  clear hlv hrc hb hR hE hT
  go_enter Tryz.func52, Tryz.ntmps52
  go_wp2_with (first | (go_at_call 87; (refine HLV.out.mono ?_); rintro e w2 ⟨v', T', rfl, hrc, hg, hsm⟩; have hln := hrc.len; obtain ⟨-, i, hi, hd, hbk, hw⟩ := hrc; obtain ⟨b, hbb⟩ : ∃ b, (T'.bad || !T'.l.isEmpty) = b := ⟨_, rfl⟩; have hend := same_end hsm HR.out b hbb; have hie := end_at hln hi hd; obtain ⟨tb, htb⟩ : ∃ tb, T'.bad = tb := ⟨_, rfl⟩; rw [htb, hie] at hbb; rw [htb] at hbk; have hxl2 := blk_lt hbk; have y1 : w2.cell? ⟨w.heap.size, 1, none⟩ = some (.int .i64 i) := (by rw [blk_cell hbk]; rfl); have y2 : w2.cell? ⟨w.heap.size, 2, none⟩ = some (.bool tb) := (by rw [blk_cell hbk]; rfl); have HEND := Aside0.mk hend; have HBB := Aside0.mk hbb; have HW2 := Aside0.mk hw; clear hg hsm hend hbb htb hie hd hbk hw))
  · rename_i h1
    have e := HEND.out.1 (by rw [← HBB.out, h1]; rfl)
    subst e
    go_ret2
    exact ⟨rfl, HW2.out⟩
  · rename_i h1 h2
    have e := HEND.out.1 (by rw [← HBB.out]; simp at h1 h2 ⊢; exact .inr h2)
    subst e
    go_ret2
    exact ⟨rfl, HW2.out⟩
  · rename_i h1 h2
    have e := HEND.out.2 (by rw [← HBB.out]; simp at h1 h2 ⊢; exact ⟨h1, h2⟩)
    subst e
    go_ret2
    exact ⟨rfl, HW2.out⟩
theorem hash_dir (s : ByteArray) : Lx.isDir ⟨7, ⟨#[]⟩, ⟨#[35]⟩ ++ s, 0⟩ = true ∧ Lx.wdOf ⟨7, ⟨#[]⟩, ⟨#[35]⟩ ++ s, 0⟩ = Lx.wd s 0 := by
  have hB : Lx.B (⟨#[35]⟩ ++ s) 0 = 35 := by
    have h0 : 0 < (ByteArray.mk #[35] ++ s).size := by rw [ByteArray.size_append]; show 0 < 1 + s.size; omega
    have h := B_get (ByteArray.mk #[35] ++ s) 0 h0
    rw [← h, ByteArray.getElem_append_left (show 0 < (ByteArray.mk #[35]).size by decide)]
    rfl
  have hd : Lx.isDir ⟨7, ⟨#[]⟩, ⟨#[35]⟩ ++ s, 0⟩ = true := by
    unfold Lx.isDir
    dsimp only
    rw [hB]; rfl
  refine ⟨hd, ?_⟩
  unfold Lx.wdOf
  rw [hd, if_pos rfl]
  dsimp only
  rw [show (ByteArray.mk #[35] ++ s).extract 1 (ByteArray.mk #[35] ++ s).size = s by
    apply ByteArray.ext
    rw [ByteArray.data_extract, ByteArray.data_append, ByteArray.size_append]
    apply Array.ext'
    rw [Array.toList_extract, Array.toList_append]
    show ([35] ++ s.data.toList).extract 1 (1 + s.size) = _
    rw [List.extract_eq_take_drop]
    simp
    rw [List.take_of_length_le (by simp)]]
set_option maxRecDepth 100000 in
set_option maxHeartbeats 4000000 in
theorem refEval_calls {num val : ByteArray → Int × Bool} {P : Lx.Tok → Prop} (w : World) (s : ByteArray) (DA : Option Addr) (DN DC : Nat) (m : Nat) (R : Int × Bool) (hs : s.size ≤ 10000) (hNI : ∀ b, InI (num b).1) (hVI : ∀ b, InI (val b).1) (hE : ∀ (w1 : World) (A : Option Addr) (n c : Nat), Below w.heap.size w w1 → Tks w1 (.slice A n c) (Lx.wd s 0) → EnvR num val P w1 A n c (.slice DA DN DC) (Lx.wd s 0)) (hR : Lx.evalF num val m (Lx.wd s 0) = some R) :
    Calls Tryz.prog 26 #[.string s, .slice DA DN DC] w fun e w' => e = .returned (.tuple #[.int .i64 R.1, .bool R.2]) ∧ Below w.heap.size w w' := by
  have hw := refWords_calls ⟨7, ⟨#[]⟩, ⟨#[35]⟩ ++ s, 0⟩ w (by show (ByteArray.mk #[35] ++ s).size ≤ _; rw [ByteArray.size_append]; show 1 + s.size ≤ _; omega)
  rw [(hash_dir s).1, (hash_dir s).2, if_pos rfl] at hw
  have HW := Aside0.mk hw
  have hln := Lx.wd_len s 0
  have key : ∀ (w1 : World) (v1 : Value), w1.ownsRow w.heap.size 29 4 v1 (Lx.wd s 0).length (tokCells (Lx.wd s 0)) → Below w.heap.size w w1 → Calls Tryz.prog 52 #[v1, .slice DA DN DC] w1 fun e w' => e = .returned (.tuple #[.int .i64 R.1, .bool R.2]) ∧ Below w.heap.size w w' := by
    intro w1 v1 hown hb
    have ht := own_tks hown
    obtain ⟨A1, c1, rfl⟩ := own_slice hown
    refine (refeval_calls w1 A1 _ c1 DA DN DC (Lx.wd s 0) m R ht (by omega) hNI hVI (hE w1 A1 _ c1 hb ht) hR).mono ?_
    rintro e w' ⟨rfl, hb2⟩
    exact ⟨rfl, hb.trans (hb2.mono hb.size)⟩
  have KEY := Aside0.mk key
  clear key hw hE hR hln
  go_enter Tryz.func26, Tryz.ntmps26
  go_wp2_with (first | (go_at_call 12; (refine HW.out.mono ?_); rintro e w1 ⟨v1, rfl, hown, hb⟩; have HK := Aside0.mk (KEY.out w1 v1 hown hb); obtain ⟨A1, c1, rfl⟩ := own_slice hown; clear hown hb) | (go_at_call 52; (refine HK.out.mono ?_); rintro e w2 ⟨rfl, hb⟩; have HB2 := Aside0.mk hb; clear hb))
  go_ret2
  exact ⟨rfl, HB2.out⟩
end Go.Proofs.YtjnafjgonoficaaGreatDoor
