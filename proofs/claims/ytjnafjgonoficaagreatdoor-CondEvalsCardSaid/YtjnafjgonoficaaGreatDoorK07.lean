/-
  What cond.Words comes to. Conditions: the text is short; the library's variables are as their text lays them.
  What the reference's Words comes to. Conditions: the text is short.
  What the reference's Words comes to, whole; the two kinds of a directive. Conditions: the text is short.
  What the kinds of a directive come to, in the program and in the reference. Conditions: the text is short; the library's variables are as their text lays them.
  Slices of ints: how they read, and that equal ones are found equal; the tokens of a text that is not too long. Conditions: the text is short.
-/
import Derived.Test.YtjnafjgonoficaaGreatDoorK06
namespace Go.Proofs.YtjnafjgonoficaaGreatDoor
open Go.RowKit Go.Proofs.YtjnafjgonoficaaGreatDoorW.PrintWords
set_option linter.unusedVariables false
set_option linter.unusedSimpArgs false
namespace Lx
/-- Is a token a directive? -/
def isDir (t : Tok) : Bool := decide (t.k = 7) && decide (B t.t 0 = 35)
/-- A directive's words. -/
def wdOf (t : Tok) : List Tok := if isDir t = true then wd (t.t.extract 1 t.t.size) 0 else []
end Lx
theorem hash_at (s : ByteArray) : Lib.hasPrefix s.data.toList (ByteArray.mk #[35]).data.toList = decide (Lx.B s 0 = 35) := Lx.prefix_one s 0 35 (by decide)
theorem condWords_calls (t : Lx.Tok) (w : World) (hs : t.t.size ≤ 20000) (hm : MaxLen w) (hbl : Blanks w) (h5 : 5 ≤ w.heap.size) :
    Calls Tryz.prog 11 #[tokV t] w fun e w' => ∃ v, e = .returned (.tuple #[v, .int .i64 (if Lx.isDir t = true then 0 else 3)]) ∧ w'.ownsRow w.heap.size 29 4 v (Lx.wdOf t).length (tokCells (Lx.wdOf t)) ∧ Below w.heap.size w w' := by
  have hB1 : Below w.heap.size w (w.alloc (.cells #[.int .i64 t.k, .string t.b, .string t.t, .int .i64 t.a] 29)) := (Below.refl _ _).alloc (Nat.le_refl _) _
  unfold tokV
  cases hk : (t.k != 7)
  · cases hh : decide (Lx.B t.t 0 = 35)
    · have HD : Aside0 (Lx.isDir t = false) := ⟨by unfold Lx.isDir; rw [hh, Bool.and_false]⟩
      rw [HD.out, if_neg Bool.false_ne_true]
      have hpx := hash_at t.t
      rw [hh] at hpx
      clear hh
      go_enter Tryz.func11, Tryz.ntmps11
      go_wp2_with (go_at_call 40; (refine (Tryz.strings_HasPrefix _ _ _).mono ?_); rintro e w' ⟨rfl, rfl⟩; rw [hpx])
      go_ret2
      exact ⟨_, rfl, by unfold Lx.wdOf; rw [HD.out, if_neg Bool.false_ne_true]; exact own_nil _ _ _ _, hB1⟩
    · have HD : Aside0 (Lx.isDir t = true) := ⟨by unfold Lx.isDir; rw [hh, bne_eq_false_iff_eq.mp hk]; rfl⟩
      rw [HD.out, if_pos rfl]
      have h1s : 1 ≤ t.t.size := Lx.B_lt_of_ne (s := t.t) (i := 0) (by rw [of_decide_eq_true hh]; decide)
      have hpx := hash_at t.t
      rw [hh] at hpx
      clear hh
      go_enter Tryz.func11, Tryz.ntmps11
      go_wp2_with (first | (go_at_call 40; (refine (Tryz.strings_HasPrefix _ _ _).mono ?_); rintro e w' ⟨rfl, rfl⟩; rw [hpx]) | (go_at_call 41; (refine (words_calls _ (t.t.extract 1 t.t.size) 0 _ rfl ?_ (by omega) ?_ ?_ ?_ ?_).mono ?_); (rw [ByteArray.size_extract]; omega); (rw [ByteArray.size_extract]; omega); exact hm.belowN hB1 (by omega); exact hbl.below hB1 (by omega); (simp; omega); rintro e w' ⟨v, rfl, hv, hb⟩; have HV := Aside0.mk hv; have HB := Aside0.mk hb; clear hv hb))
      go_ret2
      refine ⟨_, rfl, ?_, ?_⟩
      · unfold Lx.wdOf; rw [HD.out, if_pos rfl]; exact own_lower HV.out (by simp)
      · exact hB1.trans (HB.out.mono (by simp))
  · have HD : Aside0 (Lx.isDir t = false) := ⟨by unfold Lx.isDir; rw [decide_eq_false (bne_iff_ne.mp hk), Bool.false_and]⟩
    rw [HD.out, if_neg Bool.false_ne_true]
    go_enter Tryz.func11, Tryz.ntmps11
    go_wp2_with fail
    go_ret2
    exact ⟨_, rfl, by unfold Lx.wdOf; rw [HD.out, if_neg Bool.false_ne_true]; exact own_nil _ _ _ _, hB1⟩
end Go.Proofs.YtjnafjgonoficaaGreatDoor
namespace Go.Proofs.YtjnafjgonoficaaGreatDoor
open Go.RowKit Go.Proofs.YtjnafjgonoficaaGreatDoorW.PrintWords
set_option linter.unusedVariables false
set_option linter.unusedSimpArgs false
theorem ext_ext (s : ByteArray) (a b : Nat) (h : a + b ≤ s.size) : (s.extract a s.size).extract b (s.extract a s.size).size = s.extract (a + b) s.size := by
  apply ByteArray.ext
  apply Array.toList_inj.1
  rw [Lib.extract_to_end, Lib.extract_to_end, Lib.extract_to_end, List.drop_drop]
theorem wd_line (s : ByteArray) (add : Int) (n : Nat) (h : (Lx.wline add (Lx.toks (Lx.pre 59 s) 1 false)).2 = some n) (h1 : 0 < n) (h2 : n ≤ s.size) :
    Lx.wd s add = (Lx.wline add (Lx.toks (Lx.pre 59 s) 1 false)).1 ++ Lx.wd (s.extract n s.size) (add + n) := by
  conv => lhs; unfold Lx.wd
  have hc : 0 < n ∧ n ≤ s.size := ⟨h1, h2⟩
  rw [h]
  simp only [dif_pos hc]
theorem wd_none (s : ByteArray) (add : Int) (h : (Lx.wline add (Lx.toks (Lx.pre 59 s) 1 false)).2 = none) :
    Lx.wd s add = (Lx.wline add (Lx.toks (Lx.pre 59 s) 1 false)).1 := by
  conv => lhs; unfold Lx.wd
  rw [h]
theorem ext_zero (s : ByteArray) : s.extract 0 s.size = s := by
  apply ByteArray.ext
  apply Array.toList_inj.1
  rw [Lib.extract_to_end]; rfl
theorem TokAt.tail {w : World} {g o : Nat} {x : Lx.Tok} {l : List Lx.Tok} (h : TokAt w g o (x :: l)) : TokAt w g (o + 4) l := fun i t ht => by
  have := h (i + 1) t (by rw [List.getElem?_cons_succ]; exact ht)
  rw [show o + (i + 1) * 4 = o + 4 + i * 4 from by omega] at this
  exact this
theorem TokAt.keep {w w' : World} {g o : Nat} {L : List Lx.Tok} {row : Option Nat} (h : TokAt w g o L) (hg : w.grownBy w' row) (hne : some g ≠ row) : TokAt w' g o L := fun i t ht => by
  obtain ⟨a0, a1, a2, a3⟩ := h i t ht
  exact ⟨hg.cell a0 hne, hg.cell a1 hne, hg.cell a2 hne, hg.cell a3 hne⟩
set_option maxRecDepth 100000 in
set_option maxHeartbeats 8000000 in
theorem refWords_yes (t : Lx.Tok) (w : World) (hs : t.t.size ≤ 20000) (hd : Lx.isDir t = true) :
    Calls Tryz.prog 12 #[tokV t] w fun e w' => ∃ v, e = .returned (.tuple #[v, .int .i64 0]) ∧ w'.ownsRow w.heap.size 29 4 v (Lx.wdOf t).length (tokCells (Lx.wdOf t)) ∧ Below w.heap.size w w' := by
  have hB1 : Below w.heap.size w (w.alloc (.cells #[.int .i64 t.k, .string t.b, .string t.t, .int .i64 t.a] 29)) := (Below.refl _ _).alloc (Nat.le_refl _) _
  unfold tokV
  have hwo : Lx.wdOf t = Lx.wd (t.t.extract 1 t.t.size) 0 := if_pos hd
  rw [hwo]
  unfold Lx.isDir at hd
  rw [Bool.and_eq_true, decide_eq_true_eq, decide_eq_true_eq] at hd
  obtain ⟨hk, hh⟩ := hd
  have h1s : 0 < t.t.size := Lx.B_lt_of_ne (s := t.t) (i := 0) (by rw [hh]; decide)
  have h1s' : 1 ≤ t.t.size := h1s
  have hge := emptyB t.t
  rw [decide_eq_false (by omega)] at hge
  have hg0 := B_get t.t 0 h1s
  rw [hh] at hg0
  obtain ⟨s, hse⟩ : ∃ s, t.t.extract 1 t.t.size = s := ⟨_, rfl⟩
  have hss : s.size ≤ 20000 := by rw [← hse, ByteArray.size_extract]; omega
  rw [hse]
  obtain ⟨base, hbase⟩ : ∃ base, w.heap.size = base := ⟨_, rfl⟩
  rw [hbase] at hB1 ⊢
  have HBASE := Aside0.mk hbase
  have HB0 := Aside0.mk hB1
  have hbs0 : base ≤ (w.alloc (.cells #[.int .i64 t.k, .string t.b, .string t.t, .int .i64 t.a] 29)).heap.size := by simp; omega
  have HBS0 := Aside0.mk hbs0
  rw [hk] at HB0 HBS0
  clear hwo hh hbase hB1 hbs0
  go_enter Tryz.func12, Tryz.ntmps12
  go_wp2_with fail
  go_loopg [5, 6] (s.size + 1) (fun kq v5 v6 W => ∃ (D : List Lx.Tok) (pos : Nat), v6 = .int .i64 pos ∧ Aside0 (D ++ Lx.wd (s.extract pos s.size) pos = Lx.wd s 0 ∧ pos ≤ s.size ∧ kq = s.size + 1 - pos) ∧
    W.ownsRow base 29 4 v5 D.length (tokCells D) ∧ Below base w W ∧ base ≤ W.heap.size)
  case atStart => exact ⟨[], 0, rfl, ⟨by rw [ext_zero]; rfl, Nat.zero_le _, rfl⟩, own_nil _ _ _ _, HB0.out, HBS0.out⟩
  case round =>
    clear hge hg0 h1s h1s' hk hse
    obtain ⟨D, pos, rfl, HA, hown, hB, hbs⟩ := hrel
    have hpos := HA.out.2.1
    obtain ⟨sp, hsp⟩ : ∃ sp, s.extract pos s.size = sp := ⟨_, rfl⟩
    have hspz : sp.size = s.size - pos := by rw [← hsp, ByteArray.size_extract]; omega
    obtain ⟨l, b, hT, hl⟩ := Lx.toks_last (Lx.pre 59 sp) 1 false (by rw [Lx.pre_size]; omega)
    have hscan : Lx.scan (Lx.pre 59 sp) = ⟨6, (Lx.pre 59 sp).extract 0 0, (Lx.pre 59 sp).extract 0 1, 0⟩ :: (l ++ [⟨0, b, ⟨#[]⟩, ((Lx.pre 59 sp).size : Nat)⟩]) := by
      rw [Lx.pre_scan 59 sp (.inr rfl), hT]
    have hpz : (Lx.pre 59 sp).size ≤ 30000 := by rw [Lx.pre_size]; omega
    have hll := scan_len (Lx.pre 59 sp)
    rw [hscan, Lx.pre_size] at hll
    simp at hll
    have hpre := pre_toList 59 sp
    have hDl : Aside0 (D.length ≤ 20001) := ⟨by have h1 := congrArg List.length HA.out.1; have h2 := Lx.wd_len s 0; rw [List.length_append] at h1; omega⟩
    have HSC := Aside0.mk hscan
    have HTT := Aside0.mk hT
    have HL := Aside0.mk hl
    have HSP := Aside0.mk hsp
    have HSPZ := Aside0.mk hspz
    have HOWN := Aside0.mk hown
    have HBB := Aside0.mk hB
    have hspl : sp.size ≤ 20000 := by omega
    clear hscan hT hl hown hB hspz
    go_wp2_with (go_at_call 39; (refine (scanr_calls (Lx.pre 59 sp) _ hpz).mono ?_); rintro e w' ⟨v7, rfl, hv, hb⟩; rw [HSC.out] at hv; obtain ⟨A, c, rfl, hc1, hc2, hor⟩ := own_tks hv; obtain ⟨g, o, rfl, hta, hglt⟩ := hor.resolve_left (by simp); have HGG := Aside0.mk (own_base hv g rfl); have HTA := Aside0.mk hta; have HB := Aside0.mk hb; have HGLT := Aside0.mk hglt; clear hv hb hor hta hglt; simp only [List.length_cons, List.length_append, List.length_singleton] at hc1 ⊢)
    have hT0 := HTA.out
    generalize (⟨6, (Lx.pre 59 sp).extract 0 0, (Lx.pre 59 sp).extract 0 1, 0⟩ : Lx.Tok) = x0 at hT0
    have hTl : (l ++ [(⟨0, b, ⟨#[]⟩, ((Lx.pre 59 sp).size : Nat)⟩ : Lx.Tok)]).length = l.length + 1 := by simp
    have hTp : ∀ t ∈ l ++ [(⟨0, b, ⟨#[]⟩, ((Lx.pre 59 sp).size : Nat)⟩ : Lx.Tok)], ∃ p : Nat, t.a = (p : Int) ∧ 1 ≤ p ∧ p ≤ sp.size + 1 ∧ (t.k ≠ 0 → p ≤ sp.size) := by
      intro t ht
      rcases List.mem_append.1 ht with ht | ht
      · obtain ⟨-, p, e, h1, h2⟩ := HL.out t ht
        rw [Lx.pre_size] at h2
        exact ⟨p, e, h1, by omega, fun _ => by omega⟩
      · rw [List.mem_singleton] at ht
        subst ht
        exact ⟨_, rfl, by rw [Lx.pre_size]; omega, by rw [Lx.pre_size]; omega, fun h => absurd rfl h⟩
    generalize l ++ [(⟨0, b, ⟨#[]⟩, ((Lx.pre 59 sp).size : Nat)⟩ : Lx.Tok)] = T at HTT hT0 hTl hTp
    have HTP := Aside0.mk hTp
    have HTL := Aside0.mk hTl
    have hgw := HGLT.out
    have hown0 := HOWN.out.kept (grown_below (World.grownBy.refl _ none) HB.out) (Classical.em _)
    have hB1 : Below base w w' := HBB.out.trans (HB.out.mono hbs)
    have hbs1 : base ≤ w'.heap.size := by have := HB.out.size; omega
    have hne0 : Value.ownBlock u5 ≠ some g := fun e => by have h1 := own_lt HOWN.out _ e; have h2 := HGG.out; omega
    clear hpre hTp hTl HSC HL HTA HB HBB HOWN HGG HGLT
    obtain ⟨N, hN⟩ : ∃ N, l.length = N := ⟨_, rfl⟩
    rw [hN] at HTL hll hc1 ⊢
    clear hN
    go_loopg [5, 6, 9, 10] (N + 2) (fun kq v5 v6 v9 v10 W => ∃ (E : List Lx.Tok) (i ps : Nat) (gg : Bool), v6 = .int .i64 ps ∧ v9 = .bool gg ∧ v10 = .int .i64 i ∧
      Aside0 (E.length ≤ D.length + (Lx.wline pos T).1.length ∧ 1 ≤ i ∧ i ≤ N + 2 ∧ ((gg = false ∧ ps = pos ∧ E ++ (Lx.wline pos (T.drop (i - 1))).1 = D ++ (Lx.wline pos T).1 ∧ (Lx.wline pos (T.drop (i - 1))).2 = (Lx.wline pos T).2 ∧ kq = N + 3 - i) ∨
        (gg = true ∧ E = D ++ (Lx.wline pos T).1 ∧ (∃ n : Nat, (Lx.wline pos T).2 = some n ∧ ps = pos + n ∧ 0 < n ∧ n ≤ sp.size) ∧ kq = 0))) ∧
      W.ownsRow base 29 4 v5 E.length (tokCells E) ∧ Value.ownBlock v5 ≠ some g ∧ TokAt W g o (x0 :: T) ∧ g < W.heap.size ∧ Below base w W ∧ base ≤ W.heap.size)
    case atStart => exact ⟨D, 1, pos, false, rfl, rfl, rfl, ⟨by omega, by omega, by omega, .inl ⟨rfl, rfl, rfl, rfl, rfl⟩⟩, hown0, hne0, hT0, hgw, hB1, hbs1⟩
    case round =>
      obtain ⟨E, i, ps, gg, rfl, rfl, rfl, HI, hown, hne, hta, hglt, hB, hbs2⟩ := hrel
      clear hown0 hne0 hT0 hgw hB1 hbs1
      have hi1 := HI.out.2.1
      have hi2 := HI.out.2.2.1
      have hwl := Lx.wline_len pos T
      have hTl := HTL.out
      have HEL : Aside0 (E.length ≤ 60000) := ⟨by have h1 := HI.out.1; have h2 := hDl.out; omega⟩
      have HOWN := Aside0.mk hown
      have HBB := Aside0.mk hB
      have HNE := Aside0.mk hne
      have HTA := Aside0.mk hta
      have HGLT := Aside0.mk hglt
      clear hown hB hne hta hglt hwl hTl
      rcases HI.out.2.2.2 with ⟨rfl, hps, hE, hE2, hkq⟩ | ⟨rfl, hE, hE2, hkq⟩
      · obtain rfl : pos = ps := hps.symm
        by_cases hlt : i < N + 2
        · have hld : decide ((i : Int) < (N : Int) + 1 + 1) = true := by rw [decide_eq_true_eq]; omega
          obtain ⟨t, ht⟩ : ∃ t, T[i - 1]? = some t := ⟨_, List.getElem?_eq_getElem (by have := HTL.out; omega)⟩
          obtain ⟨p, hp, hp1, hp2, hp3⟩ := HTP.out t (List.mem_of_getElem? ht)
          have hdrop : T.drop (i - 1) = t :: T.drop (i + 1 - 1) := by
            have hlt2 : i - 1 < T.length := by have := HTL.out; omega
            rw [List.drop_eq_getElem_cons hlt2]
            rw [List.getElem?_eq_getElem hlt2] at ht
            rw [Option.some.inj ht, show i - 1 + 1 = i + 1 - 1 from by omega]
          obtain ⟨a0, a1, a2, a3⟩ := HTA.out i t (by rw [show i = (i - 1) + 1 from by omega, List.getElem?_cons_succ]; exact ht)
          rw [hp] at a3
          have HE := Aside0.mk (And.intro hE hE2)
          have HKQ := Aside0.mk hkq
          have HD := Aside0.mk hdrop
          have HP := Aside0.mk (And.intro hp hp3)
          clear hE hE2 hkq hp ht hdrop hp3
          cases hk : (t.k == 0)
          · cases hk7 : (t.k == 7)
            · go_wp2_with (at_builtin; refine print_append_cells (w0 := wr) base rfl (.tmp 62) (.tmp 64) 22 29 (.agg #[.int .i64 0, .string ⟨#[]⟩, .string ⟨#[]⟩, .int .i64 0]) 4 48 rfl Tryz.underlying22 (by kernel_rfl) rfl (by decide) (by decide) u5 E.length (tokCells E) [.int .i64 (t.k), .string t.b, .string t.t, .int .i64 ((p : Int) + pos - 1)] rfl (by simp [Act.eval]) rfl (by simp [Value.oneCell']) (HOWN.out.alloc _) ((Below.refl _ _).alloc (by omega) _) (by simp; omega) (by have := HEL.out; omega) ?_; intro v1 w1 hv1 hb1 hg1 hat1; have HV1 := Aside0.mk hv1; have HB1 := Aside0.mk hb1; have HG1 := Aside0.mk hg1; have HAT1 := Aside0.mk hat1; clear hv1 hb1 hg1 hat1)
              go_roundg (N + 3 - (i + 1))
              case measure => have := HKQ.out; omega
              case rel =>
                have hu : Lx.wline pos (T.drop (i - 1)) = (⟨t.k, t.b, t.t, t.a - 1 + pos⟩ :: (Lx.wline pos (T.drop (i + 1 - 1))).1, (Lx.wline pos (T.drop (i + 1 - 1))).2) := by
                  rw [HD.out]
                  conv => lhs; unfold Lx.wline
                  rw [if_neg (beq_eq_false_iff_ne.mp hk), if_neg (beq_eq_false_iff_ne.mp hk7)]
                have hE1 := HE.out.1
                have hE2 := HE.out.2
                rw [hu] at hE1 hE2
                refine ⟨E ++ [⟨t.k, t.b, t.t, t.a - 1 + pos⟩], i + 1, pos, false, rfl, rfl, by go_num, ⟨?_, by omega, by omega, .inl ⟨rfl, rfl, ?_, hE2, rfl⟩⟩, ?_, ?_, (HTA.out.keep (World.grownBy_alloc _ _ none) (by simp)).keep HG1.out (fun e => HNE.out e.symm), (by have h1 := HG1.out.size; have h2 := HGLT.out; simp at h1; omega), HBB.out.trans HB1.out, (by have h1 := HG1.out.size; simp at h1; omega)⟩
                · have h1 := congrArg List.length hE1
                  simp only [List.length_append, List.length_cons] at h1
                  rw [List.length_append, List.length_singleton]; omega
                · rw [← hE1, List.append_assoc]; rfl
                · rw [HP.out.1, List.length_append, tokCells_app, List.length_singleton, show (p : Int) - 1 + pos = p + pos - 1 from by omega]
                  exact HV1.out
                · intro e
                  rcases HAT1.out with h | ⟨b1, h, hb1⟩
                  · exact HNE.out (h.symm.trans e)
                  · rw [e] at h
                    have h2 := Option.some.inj h
                    have h3 := HGLT.out
                    simp at hb1
                    omega
            · have hk7' := beq_iff_eq.mp hk7
              have HK7 := Aside0.mk hk7'
              have HPS : Aside0 (p ≤ sp.size) := ⟨HP.out.2 (beq_eq_false_iff_ne.mp hk)⟩
              clear hk7'
              go_wp2_with (at_builtin; refine print_append_cells (w0 := wr) base rfl (.tmp 72) (.tmp 74) 22 29 (.agg #[.int .i64 0, .string ⟨#[]⟩, .string ⟨#[]⟩, .int .i64 0]) 4 48 rfl Tryz.underlying22 (by kernel_rfl) rfl (by decide) (by decide) u5 E.length (tokCells E) [.int .i64 (6), .string t.b, .string ⟨#[35]⟩, .int .i64 ((p : Int) + pos - 1)] rfl (by simp [Act.eval]) rfl (by simp [Value.oneCell']) (HOWN.out.alloc _) ((Below.refl _ _).alloc (by omega) _) (by simp; omega) (by have := HEL.out; omega) ?_; intro v1 w1 hv1 hb1 hg1 hat1; have hbox := blk_grown (blk_new wr _) hg1 (fun e => by have := own_lt HOWN.out _ e.symm; omega); have bx3 := blk_cell hbox 3; simp at bx3; clear hbox; have HV1 := Aside0.mk hv1; have HB1 := Aside0.mk hb1; have HG1 := Aside0.mk hg1; have HAT1 := Aside0.mk hat1; clear hv1 hb1 hg1 hat1)
              go_roundg 0
              case measure => have := HKQ.out; omega
              case rel =>
                have hu : Lx.wline pos (T.drop (i - 1)) = ([⟨6, t.b, ⟨#[35]⟩, t.a - 1 + pos⟩], some p) := by
                  rw [HD.out]
                  conv => lhs; unfold Lx.wline
                  rw [if_neg (beq_eq_false_iff_ne.mp hk), if_pos HK7.out, HP.out.1]
                  simp
                have hE1 := HE.out.1
                have hE2 := HE.out.2
                rw [hu] at hE1 hE2
                refine ⟨E ++ [⟨6, t.b, ⟨#[35]⟩, t.a - 1 + pos⟩], i + 1, pos + p, true, ?_, rfl, by go_num, ⟨?_, by omega, by omega, .inr ⟨rfl, hE1, ⟨p, hE2.symm, rfl, by omega, HPS.out⟩, rfl⟩⟩, ?_, ?_, (HTA.out.keep (World.grownBy_alloc _ _ none) (by simp)).keep HG1.out (fun e => HNE.out e.symm), (by have h1 := HG1.out.size; have h2 := HGLT.out; simp at h1; omega), HBB.out.trans HB1.out, (by have h1 := HG1.out.size; simp at h1; omega)⟩
                · go_num
                · have h1 := congrArg List.length hE1
                  simp only [List.length_append, List.length_cons, List.length_nil] at h1
                  rw [List.length_append, List.length_singleton]; omega
                · rw [HP.out.1, List.length_append, tokCells_app, List.length_singleton, show (p : Int) - 1 + pos = p + pos - 1 from by omega]
                  exact HV1.out
                · intro e
                  rcases HAT1.out with h | ⟨b1, h, hb1⟩
                  · exact HNE.out (h.symm.trans e)
                  · rw [e] at h
                    have h2 := Option.some.inj h
                    have h3 := HGLT.out
                    simp at hb1
                    omega
          · have hk0' := beq_iff_eq.mp hk
            have HK0 := Aside0.mk hk0'
            clear hk0'
            go_wp2_with fail
            go_roundg (N + 3 - (i + 1))
            case measure => have := HKQ.out; omega
            case rel =>
              have hu : Lx.wline pos (T.drop (i - 1)) = Lx.wline pos (T.drop (i + 1 - 1)) := by
                rw [HD.out]
                conv => lhs; unfold Lx.wline
                rw [if_pos HK0.out]
              have hE1 := HE.out.1
              have hE2 := HE.out.2
              rw [hu] at hE1 hE2
              refine ⟨E, i + 1, pos, false, rfl, rfl, by go_num, ⟨HI.out.1, by omega, by omega, .inl ⟨rfl, rfl, hE1, hE2, rfl⟩⟩, HOWN.out.alloc _, HNE.out, ?_, ?_, HBB.out.alloc hbs2 _, ?_⟩
              · exact HTA.out.keep (World.grownBy_alloc _ _ none) (by simp)
              · have := HGLT.out; simp; omega
              · simp; omega
        · have hiN : i = N + 2 := by omega
          have hld : decide ((i : Int) < (N : Int) + 1 + 1) = false := by rw [decide_eq_false_iff_not]; omega
          have hnil : T.drop (i - 1) = [] := List.drop_eq_nil_of_le (by have := HTL.out; omega)
          rw [hnil] at hE hE2
          simp only [Lx.wline, List.append_nil] at hE hE2
          have hwd : Lx.wd s 0 = E := by
            rw [← HA.out.1, HSP.out, wd_none sp pos (by rw [HTT.out]; exact hE2.symm), HTT.out, hE]
          have HWD := Aside0.mk hwd
          clear hE hE2 hkq hwd hnil hiN
          go_wp2_with fail
          go_ret2
          exact ⟨_, rfl, by rw [HWD.out]; exact HOWN.out, HBB.out⟩
      · obtain ⟨n, hn, rfl, hn0, hnz⟩ := hE2
        have hwd : E ++ Lx.wd (s.extract (pos + n) s.size) ((pos + n : Nat) : Int) = Lx.wd s 0 := by
          rw [← HA.out.1, hE, HSP.out, wd_line sp pos n (by rw [HTT.out]; exact hn) hn0 hnz, HTT.out, ← HSP.out, ext_ext s pos n (by have := HSPZ.out; omega), List.append_assoc]
          rfl
        have HWD := Aside0.mk hwd
        have HN0 := Aside0.mk (And.intro hn0 hnz)
        clear hE hkq hwd hn hn0 hnz
        cases hld : decide ((i : Int) < (N : Int) + 1 + 1)
        all_goals
          go_wp2_with fail
          go_roundg (s.size + 1 - (pos + n))
          case measure => have h1 := HA.out; have h2 := HN0.out; have h3 := HSPZ.out; omega
          case rel => exact ⟨E, pos + n, rfl, ⟨HWD.out, by have h2 := HN0.out; have h3 := HSPZ.out; omega, rfl⟩, HOWN.out, HBB.out, hbs2⟩
end Go.Proofs.YtjnafjgonoficaaGreatDoor
namespace Go.Proofs.YtjnafjgonoficaaGreatDoor
open Go.RowKit Go.Proofs.YtjnafjgonoficaaGreatDoorW.PrintWords
set_option linter.unusedVariables false
set_option linter.unusedSimpArgs false
set_option maxRecDepth 100000 in
set_option maxHeartbeats 4000000 in
theorem refWords_no (t : Lx.Tok) (w : World) (hd : Lx.isDir t = false) :
    Calls Tryz.prog 12 #[tokV t] w fun e w' => e = .returned (.tuple #[.slice none 0 0, .int .i64 3]) ∧ Below w.heap.size w w' := by
  have hB1 : Below w.heap.size w (w.alloc (.cells #[.int .i64 t.k, .string t.b, .string t.t, .int .i64 t.a] 29)) := (Below.refl _ _).alloc (Nat.le_refl _) _
  unfold tokV
  cases hk : (t.k != 7)
  · have hB : Lx.B t.t 0 ≠ 35 := fun e => by
      unfold Lx.isDir at hd
      rw [e, bne_eq_false_iff_eq.mp hk] at hd
      revert hd; decide
    have HB1 := Aside0.mk hB1
    clear hd hB1
    have hge := emptyB t.t
    by_cases h0 : t.t.size = 0
    · rw [decide_eq_true h0] at hge
      clear h0 hB
      go_enter Tryz.func12, Tryz.ntmps12
      go_wp2_with fail
      go_ret2
      exact ⟨rfl, HB1.out⟩
    · rw [decide_eq_false h0] at hge
      have h1 : 0 < t.t.size := by omega
      have hg0 := B_get t.t 0 h1
      have hbn : (Lx.B t.t 0 != 35) = true := bne_iff_ne.mpr hB
      clear h0 hB
      go_enter Tryz.func12, Tryz.ntmps12
      go_wp2_with fail
      go_ret2
      exact ⟨rfl, HB1.out⟩
  · clear hd
    go_enter Tryz.func12, Tryz.ntmps12
    go_wp2_with fail
    go_ret2
    exact ⟨rfl, hB1⟩
theorem refWords_calls (t : Lx.Tok) (w : World) (hs : t.t.size ≤ 20000) :
    Calls Tryz.prog 12 #[tokV t] w fun e w' => ∃ v, e = .returned (.tuple #[v, .int .i64 (if Lx.isDir t = true then 0 else 3)]) ∧ w'.ownsRow w.heap.size 29 4 v (Lx.wdOf t).length (tokCells (Lx.wdOf t)) ∧ Below w.heap.size w w' := by
  cases hd : Lx.isDir t
  · rw [if_neg Bool.false_ne_true]
    refine (refWords_no t w hd).mono ?_
    rintro e w' ⟨rfl, hb⟩
    exact ⟨_, rfl, by unfold Lx.wdOf; rw [hd, if_neg Bool.false_ne_true]; exact own_nil _ _ _ _, hb⟩
  · rw [if_pos rfl]
    exact refWords_yes t w hs hd
end Go.Proofs.YtjnafjgonoficaaGreatDoor
namespace Go.Proofs.YtjnafjgonoficaaGreatDoor
open Go.RowKit Go.Proofs.YtjnafjgonoficaaGreatDoorW.PrintWords
set_option linter.unusedVariables false
set_option linter.unusedSimpArgs false
namespace Lx
def kinds : List ByteArray := [⟨#[105, 102]⟩, ⟨#[105, 102, 100, 101, 102]⟩, ⟨#[105, 102, 110, 100, 101, 102]⟩, ⟨#[101, 108, 105, 102]⟩, ⟨#[101, 108, 115, 101]⟩, ⟨#[101, 110, 100, 105, 102]⟩, ⟨#[100, 101, 102, 105, 110, 101]⟩, ⟨#[117, 110, 100, 101, 102]⟩, ⟨#[105, 110, 99, 108, 117, 100, 101]⟩]
/-- The kind that a directive's words tell. -/
def kindW : List Tok → ByteArray
  | [] => ⟨#[111, 116, 104, 101, 114]⟩
  | x :: _ => if Lib.containsS kinds x.t = true then x.t else ⟨#[111, 116, 104, 101, 114]⟩
def kindOf (t : Tok) : ByteArray := if t.k = 7 then kindW (wdOf t) else ⟨#[]⟩
end Lx
theorem own_first {w : World} {base : Nat} {v : Value} {x : Lx.Tok} {r : List Lx.Tok} (h : w.ownsRow base 29 4 v (x :: r).length (tokCells (x :: r))) : ∃ g c, v = .slice (some ⟨g, 0, none⟩) (r.length + 1) c ∧ w.cell? ⟨g, 2, none⟩ = some (.string x.t) ∧ g < w.heap.size := by
  obtain ⟨A, c, hv⟩ := own_slice h
  have hc := fun g => h.cells (g := g)
  rcases h.2 with ⟨e, hn⟩ | ⟨g, cap, cur, e, hb, hh, -⟩
  · simp at hn
  · refine ⟨g, cap, e, ?_, (Array.getElem?_eq_some_iff.1 hh).1⟩
    have := hc g (by rw [e]; rfl) 2 _ (tokCells_at (x :: r) 0 x rfl).2.2.1
    rw [add_none] at this
    exact this
theorem kinds_at (w : World) (gb : Nat) (h : w.heap[gb]? = some (.cells #[.string ⟨#[105, 102]⟩, .string ⟨#[105, 102, 100, 101, 102]⟩, .string ⟨#[105, 102, 110, 100, 101, 102]⟩, .string ⟨#[101, 108, 105, 102]⟩, .string ⟨#[101, 108, 115, 101]⟩, .string ⟨#[101, 110, 100, 105, 102]⟩, .string ⟨#[100, 101, 102, 105, 110, 101]⟩, .string ⟨#[117, 110, 100, 101, 102]⟩, .string ⟨#[105, 110, 99, 108, 117, 100, 101]⟩] 9 (0, 0))) :
    ∀ j, j < Lx.kinds.length → w.cell? ⟨gb, 0 + j, none⟩ = some (.string (Lx.kinds.getD j ByteArray.empty)) := by
  intro j hj
  rw [blk_cell h]
  have hj9 : j < 9 := hj
  match j, hj9 with
  | 0, _ => rfl
  | 1, _ => rfl
  | 2, _ => rfl
  | 3, _ => rfl
  | 4, _ => rfl
  | 5, _ => rfl
  | 6, _ => rfl
  | 7, _ => rfl
  | 8, _ => rfl
set_option maxHeartbeats 2000000 in
theorem condKind_calls (t : Lx.Tok) (w : World) (hs : t.t.size ≤ 20000) (hm : MaxLen w) (hbl : Blanks w) (h5 : 5 ≤ w.heap.size) :
    Calls Tryz.prog 13 #[tokV t] w fun e w' => e = .returned (.string (Lx.kindOf t)) ∧ Below w.heap.size w w' := by
  have hB1 : Below w.heap.size w (w.alloc (.cells #[.int .i64 t.k, .string t.b, .string t.t, .int .i64 t.a] 29)) := (Below.refl _ _).alloc (Nat.le_refl _) _
  unfold Lx.kindOf tokV
  cases hk : (t.k != 7)
  · rw [if_pos (bne_eq_false_iff_eq.mp hk)]
    obtain ⟨kk, hkk⟩ : ∃ kk, Lx.kindW (Lx.wdOf t) = kk := ⟨_, rfl⟩
    rw [hkk]
    have hm1 := hm.belowN hB1 (by omega)
    have hbl1 := hbl.below hB1 (by omega)
    have hcw := condWords_calls t (w.alloc (.cells #[.int .i64 t.k, .string t.b, .string t.t, .int .i64 t.a] 29)) hs hm1 hbl1 (by simp; omega)
    obtain ⟨ec, hec⟩ : ∃ ec : Int, (if Lx.isDir t = true then 0 else 3) = ec := ⟨_, rfl⟩
    rw [hec] at hcw
    have HCW := Aside0.mk hcw
    have HB1 := Aside0.mk hB1
    clear hm hbl hm1 hbl1 hcw hec hB1
    cases hl : Lx.wdOf t with
    | nil =>
      rw [hl] at hkk
      have HKK := Aside0.mk hkk
      have HL := Aside0.mk hl
      clear hkk hl
      go_enter Tryz.func13, Tryz.ntmps13
      go_wp2_with (go_at_call 11; (refine HCW.out.mono ?_); rintro e w' ⟨v, rfl, hv, hb⟩; rw [HL.out] at hv; obtain ⟨A, c, rfl⟩ := own_slice hv; have HB := Aside0.mk hb; clear hv hb)
      go_ret
      exact ⟨by rw [← HKK.out]; rfl, HB1.out.trans (HB.out.mono (by simp))⟩
    | cons x r =>
      rw [hl] at hkk
      change (if Lib.containsS Lx.kinds x.t = true then x.t else ⟨#[111, 116, 104, 101, 114]⟩) = kk at hkk
      have HL := Aside0.mk hl
      clear hl
      cases hc : Lib.containsS Lx.kinds x.t
      · rw [hc, if_neg Bool.false_ne_true] at hkk
        have HKK := Aside0.mk hkk
        clear hkk
        go_enter Tryz.func13, Tryz.ntmps13
        go_wp2_with (first | (go_at_call 11; (refine HCW.out.mono ?_); rintro e w' ⟨v, rfl, hv, hb⟩; rw [HL.out] at hv; obtain ⟨g, c, rfl, hcell, hgl⟩ := own_first hv; have HB := Aside0.mk hb; clear hv hb) | (go_at_call 42; (refine (Tryz.slices_Contains_string _ 0 9 9 Lx.kinds x.t _ (by decide) (by omega) ?_).mono ?_); exact kinds_at _ _ (blk_new_at w' _ _ rfl); rintro e w2 ⟨rfl, rfl⟩; rw [show List.take 9 Lx.kinds = Lx.kinds from rfl, hc]))
        go_ret
        exact ⟨by rw [← HKK.out]; rfl, (HB1.out.trans (HB.out.mono (by simp))).alloc (by have h1 := HB.out.size; simp at h1; omega) _⟩
      · rw [hc, if_pos rfl] at hkk
        have HKK := Aside0.mk hkk
        clear hkk
        go_enter Tryz.func13, Tryz.ntmps13
        go_wp2_with (first | (go_at_call 11; (refine HCW.out.mono ?_); rintro e w' ⟨v, rfl, hv, hb⟩; rw [HL.out] at hv; obtain ⟨g, c, rfl, hcell, hgl⟩ := own_first hv; have HB := Aside0.mk hb; clear hv hb) | (go_at_call 42; (refine (Tryz.slices_Contains_string _ 0 9 9 Lx.kinds x.t _ (by decide) (by omega) ?_).mono ?_); exact kinds_at _ _ (blk_new_at w' _ _ rfl); rintro e w2 ⟨rfl, rfl⟩; rw [show List.take 9 Lx.kinds = Lx.kinds from rfl, hc]))
        go_ret
        exact ⟨by rw [← HKK.out]; rfl, (HB1.out.trans (HB.out.mono (by simp))).alloc (by have h1 := HB.out.size; simp at h1; omega) _⟩
  · rw [if_neg (bne_iff_ne.mp hk)]
    go_enter Tryz.func13, Tryz.ntmps13
    go_wp2_with fail
    go_ret
    exact ⟨rfl, hB1⟩
theorem kinds_strs {w : World} {gb : Nat} (h : ∀ j, j < Lx.kinds.length → w.cell? ⟨gb, 0 + j, none⟩ = some (.string (Lx.kinds.getD j ByteArray.empty))) : StrsAt w gb Lx.kinds := fun i g hi => by
  have hl : i < Lx.kinds.length := (List.getElem?_eq_some_iff.1 hi).1
  have := h i hl
  rw [Nat.zero_add, List.getD_eq_getElem?_getD, hi] at this
  exact this
set_option maxHeartbeats 2000000 in
theorem refKind_calls (t : Lx.Tok) (w : World) (hs : t.t.size ≤ 20000) :
    Calls Tryz.prog 14 #[tokV t] w fun e w' => e = .returned (.string (Lx.kindOf t)) ∧ Below w.heap.size w w' := by
  have hB1 : Below w.heap.size w (w.alloc (.cells #[.int .i64 t.k, .string t.b, .string t.t, .int .i64 t.a] 29)) := (Below.refl _ _).alloc (Nat.le_refl _) _
  unfold Lx.kindOf tokV
  cases hk : (t.k != 7)
  · rw [if_pos (bne_eq_false_iff_eq.mp hk)]
    obtain ⟨kk, hkk⟩ : ∃ kk, Lx.kindW (Lx.wdOf t) = kk := ⟨_, rfl⟩
    rw [hkk]
    have hcw := refWords_calls t (w.alloc (.cells #[.int .i64 t.k, .string t.b, .string t.t, .int .i64 t.a] 29)) hs
    have HB1 := Aside0.mk hB1
    cases hd : Lx.isDir t
    · rw [hd, if_neg Bool.false_ne_true] at hcw
      have hl : Lx.wdOf t = [] := if_neg (by rw [hd]; decide)
      have HCW := Aside0.mk hcw
      rw [hl] at hkk
      have HKK := Aside0.mk hkk
      have HL := Aside0.mk hl
      clear hkk hl hcw hB1 hd
      go_enter Tryz.func14, Tryz.ntmps14
      go_wp2_with (go_at_call 12; (refine HCW.out.mono ?_); rintro e w' ⟨v, rfl, hv, hb⟩; rw [HL.out] at hv; obtain ⟨A, c, rfl⟩ := own_slice hv; have HB := Aside0.mk hb; clear hv hb)
      go_ret
      exact ⟨by rw [← HKK.out]; rfl, HB1.out.trans (HB.out.mono (by simp))⟩
    · rw [hd, if_pos rfl] at hcw
      have HCW := Aside0.mk hcw
      clear hcw hB1 hd
      cases hl : Lx.wdOf t with
      | nil =>
        rw [hl] at hkk
        have HKK := Aside0.mk hkk
        have HL := Aside0.mk hl
        clear hkk hl
        go_enter Tryz.func14, Tryz.ntmps14
        go_wp2_with (go_at_call 12; (refine HCW.out.mono ?_); rintro e w' ⟨v, rfl, hv, hb⟩; rw [HL.out] at hv; obtain ⟨A, c, rfl⟩ := own_slice hv; have HB := Aside0.mk hb; clear hv hb)
        go_ret
        exact ⟨by rw [← HKK.out]; rfl, HB1.out.trans (HB.out.mono (by simp))⟩
      | cons x r =>
        rw [hl] at hkk
        change (if Lib.containsS Lx.kinds x.t = true then x.t else ⟨#[111, 116, 104, 101, 114]⟩) = kk at hkk
        have HL := Aside0.mk hl
        clear hl
        have hr1 : ((r.length : Int) + 1 == 0) = false := by rw [beq_eq_false_iff_ne]; omega
        cases hc : Lib.containsS Lx.kinds x.t
        · rw [hc, if_neg Bool.false_ne_true] at hkk
          have HKK := Aside0.mk hkk
          clear hkk
          go_enter Tryz.func14, Tryz.ntmps14
          go_wp2_with (first | (go_at_call 12; (refine HCW.out.mono ?_); rintro e w' ⟨v, rfl, hv, hb⟩; rw [HL.out] at hv; obtain ⟨g, c, rfl, hcell, hgl⟩ := own_first hv; have HB := Aside0.mk hb; clear hv hb) | (go_at_call 38; (refine (has_calls _ 9 Lx.kinds x.t _ ?_ rfl (by decide)).mono ?_); exact kinds_strs (kinds_at _ _ (blk_new_at w' _ _ rfl)); rintro e w2 ⟨⟨rr, rfl, hrr⟩, rfl⟩; have hrd : decide (0 ≤ rr) = Lib.containsS Lx.kinds x.t := (by rw [Bool.eq_iff_iff, decide_eq_true_eq, Lib.containsS_iff]; exact hrr); rw [hc] at hrd; clear hrr))
          go_ret
          exact ⟨by rw [← HKK.out]; rfl, (HB1.out.trans (HB.out.mono (by simp))).alloc (by have h1 := HB.out.size; simp at h1; omega) _⟩
        · rw [hc, if_pos rfl] at hkk
          have HKK := Aside0.mk hkk
          clear hkk
          go_enter Tryz.func14, Tryz.ntmps14
          go_wp2_with (first | (go_at_call 12; (refine HCW.out.mono ?_); rintro e w' ⟨v, rfl, hv, hb⟩; rw [HL.out] at hv; obtain ⟨g, c, rfl, hcell, hgl⟩ := own_first hv; have HB := Aside0.mk hb; clear hv hb) | (go_at_call 38; (refine (has_calls _ 9 Lx.kinds x.t _ ?_ rfl (by decide)).mono ?_); exact kinds_strs (kinds_at _ _ (blk_new_at w' _ _ rfl)); rintro e w2 ⟨⟨rr, rfl, hrr⟩, rfl⟩; have hrd : decide (0 ≤ rr) = Lib.containsS Lx.kinds x.t := (by rw [Bool.eq_iff_iff, decide_eq_true_eq, Lib.containsS_iff]; exact hrr); rw [hc] at hrd; clear hrr))
          go_ret
          exact ⟨by rw [← HKK.out]; rfl, (HB1.out.trans (HB.out.mono (by simp))).alloc (by have h1 := HB.out.size; simp at h1; omega) _⟩
  · rw [if_neg (bne_iff_ne.mp hk)]
    go_enter Tryz.func14, Tryz.ntmps14
    go_wp2_with fail
    go_ret
    exact ⟨rfl, hB1⟩
end Go.Proofs.YtjnafjgonoficaaGreatDoor
namespace Go.Proofs.YtjnafjgonoficaaGreatDoor
open Go.RowKit Go.Proofs.YtjnafjgonoficaaGreatDoorW.PrintWords
set_option linter.unusedVariables false
set_option linter.unusedSimpArgs false
/-- Ints lie in a block, from a place on. -/
def IntAt (w : World) (g o : Nat) (L : List Int) : Prop := ∀ i t, L[i]? = some t → w.cell? ⟨g, o + i, none⟩ = some (.int .i64 t)
/-- A slice of ints reads as a list. -/
def Ints (w : World) (v : Value) (L : List Int) : Prop := ∃ A c, v = .slice A L.length c ∧ L.length ≤ c ∧ c ≤ maxLen ∧ (L = [] ∨ ∃ g o, A = some ⟨g, o, none⟩ ∧ IntAt w g o L ∧ g < w.heap.size)
def intCells (l : List Int) : List Value := l.map fun x => .int .i64 x
theorem own_ints {w : World} {base : Nat} {v : Value} {L : List Int} (h : w.ownsRow base 3 1 v L.length (intCells L)) : Ints w v L := by
  have hc := fun g => h.cells (g := g)
  rcases h.2 with ⟨rfl, hx⟩ | ⟨g, cap, cur, rfl, hb, hh, h1, h2, -, -⟩
  · exact ⟨none, 0, by rw [hx], by omega, Nat.zero_le _, .inl (List.eq_nil_of_length_eq_zero hx)⟩
  · refine ⟨_, cap, rfl, h1, h2, .inr ⟨g, 0, rfl, ?_, (Array.getElem?_eq_some_iff.1 hh).1⟩⟩
    intro i t ht
    have := hc g rfl i _ (by unfold intCells; rw [List.getElem?_map, ht]; rfl)
    rw [add_none] at this
    exact this
theorem IntAt.below {w w' : World} {g o : Nat} {L : List Int} (h : IntAt w g o L) (hb : Below w.heap.size w w') (hg : g < w.heap.size) : IntAt w' g o L := fun i t ht => (hb.cell hg).trans (h i t ht)
theorem Ints.below {w w' : World} {v : Value} {L : List Int} (h : Ints w v L) (hb : Below w.heap.size w w') : Ints w' v L := by
  obtain ⟨A, c, e, h1, h2, h3⟩ := h
  refine ⟨A, c, e, h1, h2, h3.imp id ?_⟩
  rintro ⟨g, o, e2, h4, h5⟩
  exact ⟨g, o, e2, h4.below hb h5, Nat.lt_of_lt_of_le h5 hb.size⟩
theorem eqInts_calls (v1 v2 : Value) (L : List Int) (w : World) (hn2 : L.length ≤ 1000000) (h1 : Ints w v1 L) (h2 : Ints w v2 L) :
    Calls Tryz.prog 18 #[v1, v2] w fun e w' => e = .returned (.bool true) ∧ Drawn0 w w' := by
  obtain ⟨A1, c1, rfl, -, -, h1⟩ := h1
  obtain ⟨A2, c2, rfl, -, -, h2⟩ := h2
  obtain ⟨n, hn⟩ : ∃ n, L.length = n := ⟨_, rfl⟩
  rw [hn] at hn2 ⊢
  have HN := Aside0.mk hn
  have H1 := Aside0.mk h1
  have H2 := Aside0.mk h2
  clear h1 h2 hn
  go_enter Tryz.func18, Tryz.ntmps18
  go_wp2_with fail
  go_loopg [5] n (fun kq v5 w' => ∃ i : Nat, v5 = .int .i64 i ∧ Aside0 (i ≤ n ∧ kq = n - i) ∧ Drawn0 w w')
  case atStart => exact ⟨0, rfl, ⟨by omega, rfl⟩, Drawn0.refl _⟩
  case round =>
    obtain ⟨i, rfl, HA, ⟨m, rfl⟩⟩ := hrel
    have hi := HA.out.1
    by_cases hlt : i < n
    · obtain ⟨t, ht⟩ : ∃ t, L[i]? = some t := ⟨_, List.getElem?_eq_getElem (by have := HN.out; omega)⟩
      have hne : L ≠ [] := fun e => by rw [e] at ht; simp at ht
      obtain ⟨g1, o1, rfl, k1, -⟩ := H1.out.resolve_left hne
      obtain ⟨g2, o2, rfl, k2, -⟩ := H2.out.resolve_left hne
      have a0 := k1 i t ht
      have b0 := k2 i t ht
      clear k1 k2 H1 H2 ht hne
      go_wp2
      go_quiet (fail)
      go_wp2_with fail
      go_roundg (n - (i + 1))
      case measure => have := HA.out; omega
      case rel => exact ⟨i + 1, by go_num, ⟨by omega, rfl⟩, (by repeat (first | exact Drawn0.refl _ | assumption | apply Drawn0.step))⟩
    · obtain rfl : i = n := by omega
      go_wp2_with fail
      go_ret
      exact ⟨by simp, (by repeat (first | exact Drawn0.refl _ | assumption | apply Drawn0.step))⟩
/-- What the laws' own 'scanned' comes to. -/
theorem scanned_long (s : ByteArray) (w : World) (h : 3000 < s.size) :
    Calls Tryz.prog 10 #[.string s] w fun e w' => e = .returned (.tuple #[.slice none 0 0, .bool false]) ∧ w = w' := by
  have h1 : decide ((3000 : Int) < (s.size : Int)) = true := by rw [decide_eq_true_eq]; omega
  go_enter Tryz.func10, Tryz.ntmps10
  go_wp2_with fail
  go_ret2
  exact ⟨rfl, rfl⟩
theorem scanned_calls (s : ByteArray) (w : World) (h : s.size ≤ 3000) :
    Calls Tryz.prog 10 #[.string s] w fun e w' => ∃ v, e = .returned (.tuple #[v, .bool true]) ∧ w'.ownsRow w.heap.size 29 4 v (Lx.scan s).length (tokCells (Lx.scan s)) ∧ Below w.heap.size w w' := by
  have h1 : decide ((3000 : Int) < (s.size : Int)) = false := by rw [decide_eq_false_iff_not]; omega
  go_enter Tryz.func10, Tryz.ntmps10
  go_wp2_with (go_at_call 39; (refine (scanr_calls s _ (by omega)).mono ?_); rintro e w' ⟨v, rfl, hv, hb⟩; have HV := Aside0.mk hv; have HB := Aside0.mk hb; clear hv hb)
  go_ret2
  exact ⟨_, rfl, HV.out, HB.out⟩
end Go.Proofs.YtjnafjgonoficaaGreatDoor
