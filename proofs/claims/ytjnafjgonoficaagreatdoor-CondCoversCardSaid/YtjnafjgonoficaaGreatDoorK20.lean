/-
  The places of a text's tokens, more of it, plainly: the branches are in range, each group comes once, the end is in no group; a choice turned towards a token shows it. No program in sight. Conditions: none.
  What HasInt and cond.Of come to where the groups are as said, and where a text's end lies. Conditions: the numbers, the tokens lie in memory; the tokens are short; the library's variables are as their text lays them.
  What CondCovers leans on, plainly: a text's end is its one token of kind 0; what is seen by a choice, and by the choice turned towards a token. No program in sight. Conditions: none.
  What CondCovers comes to: true. Conditions: the seeds lie in memory; the library's variables are as their text lays them.
  A slice of bytes that came in, opened: its numbers lie in memory. Conditions: none.
-/
import Derived.Test.YtjnafjgonoficaaGreatDoorK18
import Derived.Test.YtjnafjgonoficaaGreatDoorK16
import Derived.Test.YtjnafjgonoficaaGreatDoorK19
namespace Go.Proofs.YtjnafjgonoficaaGreatDoor
open Go.RowKit Go.Proofs.YtjnafjgonoficaaGreatDoorW.PrintWords
set_option linter.unusedVariables false
set_option linter.unusedSimpArgs false
namespace Lx
/-- A closed group has a branch for each line but the last one, at least. -/
theorem gstep_br (c : Int) (S T : GS) (k : ByteArray) (i : Nat) (h : gstep c S k i = some T) (hS : ∀ (j : Nat) (g : G), S.gs[j]? = some g → (∀ p ∈ S.st, p.1 ≠ j) → (g.lines.length : Int) ≤ g.br + 1) :
    ∀ (j : Nat) (g : G), T.gs[j]? = some g → (∀ p ∈ T.st, p.1 ≠ j) → (g.lines.length : Int) ≤ g.br + 1 := by
  unfold gstep at h
  split at h
  · split at h <;> cases h
    all_goals
      rename_i hs
      intro j g hg hst
      dsimp only at hg hst
      by_cases hj : j < S.gs.length
      · rw [List.getElem?_append_left hj] at hg
        refine hS j g hg fun p hp => ?_
        rw [hs] at hp
        first
        | exact hst p (List.mem_cons_of_mem _ hp)
        | simp at hp
      · have h0 := (List.getElem?_eq_some_iff.1 hg).1
        simp at h0
        exact absurd (by omega) (hst _ List.mem_cons_self)
  · split at h
    · split at h
      · cases h
      · rename_i n b e r hs
        split at h
        · cases h
        · split at h <;> cases h
          · intro j g hg hst
            dsimp only at hg hst
            rw [List.getElem?_modify] at hg
            obtain ⟨g1, h1, rfl⟩ := Option.map_eq_some_iff.1 hg
            by_cases hn : n = j
            · rw [if_pos hn]
              dsimp only
              rw [List.length_append, List.length_singleton]
              split <;> omega
            · rw [if_neg hn]
              refine hS j g1 h1 fun p hp => ?_
              rw [hs] at hp
              rcases List.mem_cons.1 hp with rfl | hp
              · exact hn
              · exact hst p hp
          · intro j g hg hst
            dsimp only at hg hst
            rw [List.getElem?_modify] at hg
            obtain ⟨g1, h1, rfl⟩ := Option.map_eq_some_iff.1 hg
            have hn : n ≠ j := hst _ List.mem_cons_self
            rw [if_neg hn]
            refine hS j g1 h1 fun p hp => ?_
            rw [hs] at hp
            rcases List.mem_cons.1 hp with rfl | hp
            · exact hn
            · exact hst p (List.mem_cons_of_mem _ hp)
    · cases h; exact hS
theorem br2_run (c : Int) : ∀ (ks : List ByteArray) (S T : GS) (i : Nat), grun c S ks i = .inl T → (∀ (j : Nat) (g : G), S.gs[j]? = some g → (∀ p ∈ S.st, p.1 ≠ j) → (g.lines.length : Int) ≤ g.br + 1) → ∀ (j : Nat) (g : G), T.gs[j]? = some g → (∀ p ∈ T.st, p.1 ≠ j) → (g.lines.length : Int) ≤ g.br + 1
  | [], S, T, i, h, hS => by unfold grun at h; cases h; exact hS
  | k :: r, S, T, i, h, hS => by
    unfold grun at h
    cases hq : gstep c S k i with
    | none => rw [hq] at h; cases h
    | some U => rw [hq] at h; exact br2_run c r U T (i + 1) h (gstep_br c S U k i hq hS)
/-- What is said of a token: the branches are in range, each group once. -/
def FineOut (gs : List G) (o : List (Int × Int)) : Prop := (o.Pairwise fun p q => p.1 ≠ q.1) ∧ ∀ p ∈ o, ∃ (j : Nat) (g : G), p.1 = (j : Int) ∧ gs[j]? = some g ∧ 0 ≤ p.2 ∧ p.2 < g.br
theorem fine_now (S : GS) (i : Nat) (gs : List G) (hS : Good S) (E : Ext S gs i) (hbr : ∀ g ∈ gs, (g.lines.length : Int) ≤ g.br + 1) : FineOut gs (nowOf S.st) := by
  constructor
  · unfold nowOf
    rw [List.pairwise_reverse, List.pairwise_map]
    exact hS.desc.imp fun {p q} h => by dsimp only; omega
  · intro p hp
    unfold nowOf at hp
    rw [List.mem_reverse, List.mem_map] at hp
    obtain ⟨q, hq, rfl⟩ := hp
    have hjl := hS.lt q hq
    have hgl : q.1 < gs.length := Nat.lt_of_lt_of_le hjl E.len
    obtain ⟨r, h1, h2, h3⟩ := E.ext q.1 _ _ (List.getElem?_eq_getElem hjl) (List.getElem?_eq_getElem hgl)
    have hr0 : r ≠ [] := fun a => h3.1 a q hq rfl
    have hlen := hS.len q hq _ (List.getElem?_eq_getElem hjl)
    have hb := hbr _ (List.getElem_mem hgl)
    have hrl := List.length_pos_iff.2 hr0
    rw [h1, List.length_append, hlen] at hb
    exact ⟨q.1, _, rfl, List.getElem?_eq_getElem hgl, by omega, by dsimp only; omega⟩
theorem fine_drop {gs : List G} {o : List (Int × Int)} (h : FineOut gs o) : FineOut gs o.dropLast :=
  ⟨h.1.sublist (List.dropLast_sublist o), fun p hp => h.2 p (List.dropLast_subset _ hp)⟩
theorem fine_run (c : Int) (gs : List G) (hne : ∀ g ∈ gs, g.lines ≠ []) (hbr : ∀ g ∈ gs, (g.lines.length : Int) ≤ g.br + 1) : ∀ (ks : List ByteArray) (S T : GS) (i : Nat), grun c S ks i = .inl T → T.gs = gs → T.st = [] → Good S → Sm S i →
    ∃ outs, plRun gs (nowOf S.st) i ks.length = some outs ∧ (∀ o ∈ outs, FineOut gs o) ∧ ∀ (l : List ByteArray) (k : ByteArray), ks = l ++ [k] → opens k = false → closes k = false → outs[l.length]? = some []
  | [], S, T, i, h, hg, hst, hS, hm => ⟨[], rfl, by simp, fun l k e => by simp at e⟩
  | k :: r, S, T, i, h, hg, hst, hS, hm => by
    have E := ext_run c gs (k :: r) S T i h hg hst hS
    unfold grun at h
    cases hq : gstep c S k i with
    | none => rw [hq] at h; cases h
    | some U =>
      rw [hq] at h
      have hU := good_step c S U k i hq hS
      have E' := ext_run c gs r U T (i + 1) h hg hst hU
      have hlt : ∀ g ∈ S.gs, ∀ x ∈ g.lines, x < (i : Int) := fun g hg x hx => ((hm.2 g hg).2 x hx).2
      obtain ⟨o, h1, h2, h3⟩ := pl_step c S U k i gs hq hS hlt E E' hne
      obtain ⟨outs, k1, k2, k3⟩ := fine_run c gs hne hbr r U T (i + 1) h hg hst hU (sm_step c S U k i hq hm)
      have hf := fine_now S i gs hS E hbr
      refine ⟨o :: outs, ?_, ?_, ?_⟩
      · rw [List.length_cons]
        unfold plRun
        rw [h1]
        dsimp only
        rw [k1]; rfl
      · intro x hx
        rcases List.mem_cons.1 hx with rfl | hx
        · rcases h2 with rfl | rfl
          · exact hf
          · exact fine_drop hf
        · exact k2 x hx
      · intro l k' e a b
        cases l with
        | nil =>
          simp at e
          obtain ⟨rfl, rfl⟩ := e
          have hUS : U = S := by
            rcases gstep_cases c S U k i hq with ⟨x, -⟩ | ⟨-, x, -⟩ | ⟨-, -, x⟩
            · rw [a] at x; cases x
            · rw [b] at x; cases x
            · exact x
          unfold grun at h
          cases h
          rw [hUS] at hst
          rw [h3 a b, hst]
          rfl
        | cons y l =>
          simp only [List.cons_append, List.cons.injEq] at e
          obtain ⟨rfl, rfl⟩ := e
          have := k3 l k' rfl a b
          simpa using this
/-- **The places, more of it.** -/
theorem fine_law (ks : List ByteArray) (h : (groups ks).2.1 = 0) : ∃ outs, places (groups ks).1 ks.length = some outs ∧ (∀ o ∈ outs, FineOut (groups ks).1 o) ∧ ∀ (l : List ByteArray) (k : ByteArray), ks = l ++ [k] → opens k = false → closes k = false → outs[l.length]? = some [] := by
  unfold groups groupsC at h ⊢
  split at h
  · cases h
  · rename_i hn
    rw [if_neg hn]
    cases hg : grun 0 gs0 ks 0 with
    | inr i => rw [hg] at h; cases h
    | inl S =>
      rw [hg] at h
      dsimp only at h ⊢
      split at h
      · rename_i hst
        rw [if_pos hst]
        have hst := List.isEmpty_iff.1 hst
        have hgd := good_run 0 ks gs0 S 0 hg good0
        have hbr : ∀ g ∈ S.gs, (g.lines.length : Int) ≤ g.br + 1 := fun g hg0 => by
          obtain ⟨j, hj⟩ := List.mem_iff_getElem?.1 hg0
          exact br2_run 0 ks gs0 S 0 hg (by intro j g hg; simp [gs0] at hg) j g hj (by rw [hst]; simp)
        exact fine_run 0 S.gs hgd.ne hbr ks gs0 S 0 hg rfl hst good0 sm0
      · cases h
/-- A choice, turned towards some branches. -/
def turned (ch : List Int) (o : List (Int × Int)) : List Int := o.foldl (fun c p => c.set p.1.toNat p.2) ch
theorem turned_len (o : List (Int × Int)) : ∀ ch : List Int, (turned ch o).length = ch.length := by
  induction o with
  | nil => exact fun ch => rfl
  | cons p r ih => intro ch; show (turned (ch.set p.1.toNat p.2) r).length = _; rw [ih]; simp
theorem turned_other (o : List (Int × Int)) : ∀ (ch : List Int) (j : Nat), (∀ p ∈ o, p.1.toNat ≠ j) → (turned ch o)[j]? = ch[j]? := by
  induction o with
  | nil => exact fun ch j _ => rfl
  | cons p r ih =>
    intro ch j h
    show (turned (ch.set p.1.toNat p.2) r)[j]? = _
    rw [ih _ j fun q hq => h q (List.mem_cons_of_mem _ hq), List.getElem?_set, if_neg (h p (by simp))]
theorem turned_at (o : List (Int × Int)) : ∀ (ch : List Int), (o.Pairwise fun p q => p.1 ≠ q.1) → (∀ p ∈ o, 0 ≤ p.1 ∧ p.1.toNat < ch.length) → ∀ p ∈ o, (turned ch o)[p.1.toNat]? = some p.2 := by
  induction o with
  | nil => intro ch _ _ p hp; simp at hp
  | cons q r ih =>
    intro ch hd hl p hp
    have h1 := List.pairwise_cons.1 hd
    have hq := hl q (by simp)
    show (turned (ch.set q.1.toNat q.2) r)[p.1.toNat]? = _
    rcases List.mem_cons.1 hp with rfl | hp
    · rw [turned_other r _ _ fun x hx e => by
        have := h1.1 x hx
        have := hl x (List.mem_cons_of_mem _ hx)
        omega]
      rw [List.getElem?_set, if_pos rfl, if_pos hq.2]
    · exact ih _ h1.2 (fun x hx => by have := hl x (List.mem_cons_of_mem _ hx); rw [List.length_set]; exact this) p hp
theorem turned_in (o : List (Int × Int)) : ∀ (ch : List Int) (j : Nat) (x : Int), (turned ch o)[j]? = some x → ch[j]? = some x ∨ ∃ p ∈ o, p.1.toNat = j ∧ p.2 = x := by
  induction o with
  | nil => exact fun ch j x h => .inl h
  | cons q r ih =>
    intro ch j x h
    rcases ih (ch.set q.1.toNat q.2) j x h with h1 | ⟨p, hp, h1⟩
    · rw [List.getElem?_set] at h1
      split at h1
      · split at h1
        · rename_i e _
          cases h1
          exact .inr ⟨q, by simp, e, rfl⟩
        · cases h1
      · exact .inl h1
    · exact .inr ⟨p, List.mem_cons_of_mem _ hp, h1⟩
theorem turned_shows (ch : List Int) (o : List (Int × Int)) (hd : o.Pairwise fun p q => p.1 ≠ q.1) (hl : ∀ p ∈ o, 0 ≤ p.1 ∧ p.1.toNat < ch.length) : hidden (turned ch o) o = false := by
  unfold hidden
  rw [List.any_eq_false]
  intro p hp
  have := turned_at o ch hd hl p hp
  unfold other
  rw [List.getD_eq_getElem?_getD, this]
  simp
/-- A token is among those seen. -/
theorem mem_view (ch : List Int) : ∀ (L : List Tok) (outs : List (List (Int × Int))) (i j : Nat) (t : Tok) (o : List (Int × Int)), L[j]? = some t → outs[j]? = some o → (((i + j : Nat) : Int) ∈ viewL ch L outs i ↔ seen t ch o = true)
  | [], _, i, j, t, o, h, _ => by simp at h
  | _ :: _, [], i, j, t, o, _, h => by simp at h
  | x :: r, y :: s, i, j, t, o, h1, h2 => by
    have hlow : ∀ (L : List Tok) (outs : List (List (Int × Int))) (i : Nat), ∀ z ∈ viewL ch L outs i, (i : Int) ≤ z := by
      intro L
      induction L with
      | nil => intro outs i z hz; simp [viewL] at hz
      | cons a b ih =>
        intro outs i z hz
        cases outs with
        | nil => simp [viewL] at hz
        | cons c d =>
          unfold viewL at hz
          split at hz
          · rcases List.mem_cons.1 hz with rfl | hz
            · exact Int.le_refl _
            · have := ih d (i + 1) z hz; omega
          · have := ih d (i + 1) z hz; omega
    cases j with
    | zero =>
      simp at h1 h2
      subst h1 h2
      unfold viewL
      by_cases hs : seen x ch y = true
      · rw [if_pos hs]; simp [hs]
      · rw [if_neg hs]
        constructor
        · intro hm
          have := hlow r s (i + 1) _ hm
          omega
        · exact fun e => absurd e hs
    | succ j =>
      have ih := mem_view ch r s (i + 1) j t o (by simpa using h1) (by simpa using h2)
      rw [show i + 1 + j = i + (j + 1) by omega] at ih
      unfold viewL
      split
      · rw [List.mem_cons]
        constructor
        · rintro (e | e)
          · omega
          · exact ih.1 e
        · exact fun e => .inr (ih.2 e)
      · exact ih
end Lx
end Go.Proofs.YtjnafjgonoficaaGreatDoor
namespace Go.Proofs.YtjnafjgonoficaaGreatDoor
open Go.RowKit Go.Proofs.YtjnafjgonoficaaGreatDoorW.PrintWords
set_option linter.unusedVariables false
set_option linter.unusedSimpArgs false
set_option maxRecDepth 100000 in
set_option maxHeartbeats 4000000 in
theorem hasInt_calls (v : Value) (l : List Int) (x : Int) (w : World) (hl : l.length ≤ 1000000) (hI : Ints w v l) : Calls Tryz.prog 28 #[v, .int .i64 x] w fun e w' => ∃ r : Int, e = .returned (.int .i64 r) ∧ (0 ≤ r ↔ x ∈ l) ∧ w = w' := by
  obtain ⟨A, c, rfl, hc1, hc2, hA⟩ := hI
  obtain ⟨n, hn⟩ : ∃ n, l.length = n := ⟨_, rfl⟩
  rw [hn] at hc1 hl ⊢
  have HN := Aside0.mk hn
  have HA := Aside0.mk hA
  clear hn hA
  go_enter Tryz.func28, Tryz.ntmps28
  go_wp2_with fail
  go_loopg [5] n (fun kq v5 W => ∃ i : Nat, v5 = .int .i64 i ∧ Aside0 (i ≤ n ∧ kq = n - i ∧ ∀ j y, j < i → l[j]? = some y → y ≠ x) ∧ W = w)
  case atStart => exact ⟨0, rfl, ⟨by omega, rfl, fun j y h => absurd h (Nat.not_lt_zero j)⟩, rfl⟩
  case round =>
    obtain ⟨i, rfl, HJ, rfl⟩ := hrel
    have hi := HJ.out.1
    by_cases hlt : i < n
    · obtain ⟨y, hy⟩ : ∃ y, l[i]? = some y := ⟨_, List.getElem?_eq_getElem (by have := HN.out; omega)⟩
      obtain ⟨g, o, rfl, hat, hgl⟩ := HA.out.resolve_left (fun e => by rw [e] at hy; simp at hy)
      have x0 := hat i y hy
      have HY := Aside0.mk hy
      obtain ⟨p, hp⟩ : ∃ p, (y == x) = p := ⟨_, rfl⟩
      have HP := Aside0.mk hp
      clear hy hat
      cases p
      · go_wp2_with fail
        go_roundg (n - (i + 1))
        case measure => have := HJ.out.2.1; omega
        case rel =>
          refine ⟨i + 1, by go_num, ⟨by omega, rfl, fun j z hj hz => ?_⟩, rfl⟩
          rcases Nat.lt_or_ge j i with h | h
          · exact HJ.out.2.2 j z h hz
          · obtain rfl : j = i := by omega
            rw [HY.out] at hz; cases hz
            exact beq_eq_false_iff_ne.mp HP.out
      · go_wp2_with fail
        go_ret
        refine ⟨_, rfl, ?_, rfl⟩
        constructor
        · intro _
          rw [← eq_of_beq HP.out]
          exact List.mem_of_getElem? HY.out
        · exact fun _ => Int.natCast_nonneg _
    · obtain rfl : i = n := by omega
      clear hlt
      go_wp2_with fail
      go_ret
      refine ⟨_, rfl, ?_, rfl⟩
      constructor
      · intro h; omega
      · intro h
        obtain ⟨j, hj⟩ := List.mem_iff_getElem?.1 h
        have hjl := (List.getElem?_eq_some_iff.1 hj).1
        exact absurd rfl (HJ.out.2.2 j x (by have := HN.out; omega) hj)
set_option maxRecDepth 100000 in
theorem of_calls (v : Value) (L : List Lx.Tok) (w : World) (hT : Tks w v L) (hlen : L.length ≤ 100000) (hs : ∀ t ∈ L, t.t.size ≤ 20000) (hW : Laid w)
    (hE : (Lx.groups (L.map Lx.kindOf)).2.1 = 0) (outs : List (List (Int × Int))) (hP : Lx.places (Lx.groups (L.map Lx.kindOf)).1 L.length = some outs) (hSm : Lx.Small (Lx.groups (L.map Lx.kindOf)).1) (hol : outs.length = L.length) (i : Nat) (o : List (Int × Int)) (ho : outs[i]? = some o) :
    Calls Tryz.prog 27 #[v, .int .i64 i] w fun e w' => ∃ ov, e = .returned (.tuple #[ov, .int .i64 0]) ∧ w'.ownsRow w.heap.size 58 2 ov o.length (pairCells o) ∧ Below w.heap.size w w' := by
  have h5 := hW.size
  have HPL := Aside0.mk (places_calls v L w hT hlen hs hW.maxLen hW.blanks (by omega) hE outs hP hSm)
  have hil := (List.getElem?_eq_some_iff.1 ho).1
  obtain ⟨n, hn⟩ : ∃ n, L.length = n := ⟨_, rfl⟩
  obtain ⟨A, c, rfl, hc1, hc2, hA⟩ := hT
  rw [hn] at hol HPL hlen ⊢
  rw [hol] at hil
  have HO := Aside0.mk ho
  have HOL := Aside0.mk hol
  have hi0 : decide ((i : Int) < 0) = false := decide_eq_false (by omega)
  have hi1 : decide ((n : Int) ≤ (i : Int)) = false := decide_eq_false (by omega)
  clear hs hW hE hP hSm hn hA ho hol
  go_enter Tryz.func27, Tryz.ntmps27
  go_wp2_with (first | (go_at_call 46; (refine HPL.out.mono ?_); rintro e w1 ⟨ov, gv, rfl, hgrp, hout, hb⟩; obtain ⟨vs, e1, e2, e3⟩ := hout; rw [HOL.out] at e2; obtain ⟨og, oc, rfl, -, hogl⟩ := e2.form (by omega); obtain ⟨va, hva⟩ : ∃ va, vs[i]? = some va := ⟨_, List.getElem?_eq_getElem (by have := HOL.out; omega)⟩; have hrow := e3 i va o hva HO.out; obtain ⟨ra, rc, rfl⟩ := own_slice hrow; have r0 : w1.cell? ⟨og, i, none⟩ = some (.slice ra o.length rc) := (by rw [e2.cellAt i (by omega)]; exact hva); have HROW := Aside0.mk hrow; have HB := Aside0.mk hb; clear hgrp hb e1 e2 e3 hva hrow))
  go_ret2
  exact ⟨_, rfl, HROW.out, HB.out⟩
end Go.Proofs.YtjnafjgonoficaaGreatDoor
namespace Go.Proofs.YtjnafjgonoficaaGreatDoor
open Go.RowKit Go.Proofs.YtjnafjgonoficaaGreatDoorW.PrintWords
set_option linter.unusedVariables false
set_option linter.unusedSimpArgs false
theorem tokEnd_kind (s : ByteArray) (a : Nat) (f : Bool) : (Lx.tokEnd s a f).1 ≠ 0 := by
  unfold Lx.tokEnd
  repeat' split
  all_goals first
    | (simp; done)
    | (dsimp only; split <;> simp)
theorem toks_end (s : ByteArray) (a : Nat) (f : Bool) : ∃ l t, Lx.toks s a f = l ++ [t] ∧ t.k = 0 ∧ ∀ x ∈ l, x.k ≠ 0 := by
  unfold Lx.toks
  split
  · rename_i h
    obtain ⟨l, t, h1, h2, h3⟩ := toks_end s (Lx.tokEnd s (Lx.gap s a f).1 (Lx.gap s a f).2).2 false
    refine ⟨_ :: l, t, by rw [h1]; rfl, h2, fun x hx => ?_⟩
    rcases List.mem_cons.1 hx with rfl | hx
    · exact tokEnd_kind _ _ _
    · exact h3 x hx
  · exact ⟨[], _, rfl, rfl, by simp⟩
  termination_by s.size - a
  decreasing_by omega
theorem kind_none (t : Lx.Tok) (h : t.k ≠ 7) : Lx.kindOf t = ⟨#[]⟩ := by unfold Lx.kindOf; rw [if_neg h]
/-- What is known where a text's groups are as said. -/
structure Cov (L : List Lx.Tok) (gs : List Lx.G) (outs : List (List (Int × Int))) : Prop where
  groups : (Lx.groups (L.map Lx.kindOf)).1 = gs
  err : (Lx.groups (L.map Lx.kindOf)).2.1 = 0
  places : Lx.places gs L.length = some outs
  len : outs.length = L.length
  ok : ∀ o ∈ outs, Lx.OkOut gs.length gs.length o
  fine : ∀ o ∈ outs, Lx.FineOut gs o
  br : ∀ g ∈ gs, 0 < g.br
  stop : ∀ (i : Nat) (t : Lx.Tok) (o : List (Int × Int)), L[i]? = some t → outs[i]? = some o → t.k = 0 → o = []
theorem cov_of (s : ByteArray) (h : (Lx.groups ((Lx.scan s).map Lx.kindOf)).2.1 = 0) : ∃ outs, Cov (Lx.scan s) (Lx.groups ((Lx.scan s).map Lx.kindOf)).1 outs := by
  obtain ⟨outs, k1, k2, k3, k4, k5⟩ := Lx.view_law (Lx.scan s) h
  obtain ⟨outs2, m1, m2, m3⟩ := Lx.fine_law ((Lx.scan s).map Lx.kindOf) h
  rw [List.length_map] at m1
  obtain rfl : outs = outs2 := Option.some.inj (k1.symm.trans m1)
  refine ⟨outs, rfl, h, k1, k2, k3, m2, k4, ?_⟩
  intro i t o ht ho hk
  obtain ⟨l, t0, e1, e2, e3⟩ := toks_end s 0 true
  have e1' : Lx.scan s = l ++ [t0] := e1
  rw [e1'] at ht
  by_cases hi : i < l.length
  · rw [List.getElem?_append_left hi] at ht
    exact absurd hk (e3 t (List.mem_of_getElem? ht))
  · have hil := (List.getElem?_eq_some_iff.1 ht).1
    simp at hil
    obtain rfl : i = l.length := by omega
    have := m3 (l.map Lx.kindOf) (Lx.kindOf t0) (by rw [e1', List.map_append]; rfl) (by rw [kind_none t0 (by rw [e2]; decide)]; decide +kernel) (by rw [kind_none t0 (by rw [e2]; decide)]; decide +kernel)
    rw [List.length_map, ho] at this
    exact Option.some.inj this
/-- Seen by the choice: chosen, and no directive. -/
theorem cov_seen {L : List Lx.Tok} {gs : List Lx.G} {outs : List (List (Int × Int))} (h : Cov L gs outs) (ch : List Int) (i : Nat) (t : Lx.Tok) (o : List (Int × Int)) (ht : L[i]? = some t) (ho : outs[i]? = some o) : Lx.seen t ch o = (!Lx.hidden ch o && !(t.k == 7)) := by
  unfold Lx.seen
  by_cases h0 : t.k = 0
  · rw [h.stop i t o ht ho h0, h0]; rfl
  · have e : (t.k == 0) = false := beq_eq_false_iff_ne.mpr h0
    rw [e, Bool.false_or, Bool.and_comm]
    rfl
/-- Turned towards a token: it is seen, if it is no directive. -/
theorem cov_turned {L : List Lx.Tok} {gs : List Lx.G} {outs : List (List (Int × Int))} (h : Cov L gs outs) (ch : List Int) (hl : ch.length = gs.length) (i : Nat) (t : Lx.Tok) (o : List (Int × Int)) (ht : L[i]? = some t) (ho : outs[i]? = some o) : Lx.seen t (Lx.turned ch o) o = !(t.k == 7) := by
  have hm := List.mem_of_getElem? ho
  rw [cov_seen h _ i t o ht ho, Lx.turned_shows ch o (h.fine o hm).1 fun p hp => by have := (h.ok o hm).2 p hp; rw [hl]; omega]
  simp
/-- A choice in range. -/
def InR (ch : List Int) (gs : List Lx.G) : Prop := ∀ (j : Nat) (x : Int) (g : Lx.G), ch[j]? = some x → gs[j]? = some g → 0 ≤ x ∧ x < g.br
theorem inR_ok {ch : List Int} {gs : List Lx.G} (h : InR ch gs) (i : Nat) : ¬ badAt ch gs i := by
  rintro ⟨x, g, h1, h2, h3⟩
  have := h i x g h1 h2
  omega
theorem inR_turned {gs : List Lx.G} {ch : List Int} {o : List (Int × Int)} (h : InR ch gs) (hf : Lx.FineOut gs o) : InR (Lx.turned ch o) gs := by
  intro j x g hx hg
  rcases Lx.turned_in o ch j x hx with h1 | ⟨p, hp, h1, h2⟩
  · exact h j x g h1 hg
  · obtain ⟨j', g', e1, e2, e3, e4⟩ := hf.2 p hp
    have : j' = j := by omega
    rw [this, hg] at e2
    cases e2
    omega
theorem turned_take (ch : List Int) (o : List (Int × Int)) (k : Nat) (p : Int × Int) (h : o[k]? = some p) : Lx.turned ch (o.take (k + 1)) = (Lx.turned ch (o.take k)).set p.1.toNat p.2 := by
  unfold Lx.turned
  rw [take_snoc o k p h, List.foldl_append]
  rfl
theorem hidden_take (ch : List Int) (o : List (Int × Int)) (k : Nat) (p : Int × Int) (h : o[k]? = some p) : Lx.hidden ch (o.take (k + 1)) = (Lx.hidden ch (o.take k) || Lx.other ch p) := by
  unfold Lx.hidden
  rw [take_snoc o k p h, List.any_append]
  simp
end Go.Proofs.YtjnafjgonoficaaGreatDoor
namespace Go.Proofs.YtjnafjgonoficaaGreatDoor
open Go.RowKit Go.Proofs.YtjnafjgonoficaaGreatDoorW.PrintWords
set_option linter.unusedVariables false
set_option linter.unusedSimpArgs false
/-- A slice of bytes lies in memory. -/
def Byts (w : World) (v : Value) (n : Nat) : Prop := ∃ A c, v = .slice A n c ∧ n ≤ c ∧ c ≤ maxLen ∧ (n = 0 ∨ ∃ g o, A = some ⟨g, o, none⟩ ∧ g < w.heap.size ∧ ∀ i, i < n → ∃ x : Int, 0 ≤ x ∧ x < 256 ∧ w.cell? ⟨g, o + i, none⟩ = some (.int .u8 x))
theorem Byts.below {w w' : World} {v : Value} {n : Nat} (h : Byts w v n) (hb : Below w.heap.size w w') : Byts w' v n := by
  obtain ⟨A, c, e, h1, h2, h3⟩ := h
  refine ⟨A, c, e, h1, h2, h3.imp id ?_⟩
  rintro ⟨g, o, e2, hg, h4⟩
  refine ⟨g, o, e2, Nat.lt_of_lt_of_le hg hb.size, fun i hi => ?_⟩
  obtain ⟨x, x1, x2, x3⟩ := h4 i hi
  exact ⟨x, x1, x2, (hb.cell hg).trans x3⟩
theorem cv_view (L : List Lx.Tok) (gs : List Lx.G) (outs : List (List (Int × Int))) (hC : Cov L gs outs) (hlen : L.length ≤ 100000) (hs : ∀ t ∈ L, t.t.size ≤ 20000) (ch : List Int) (hl : ch.length = gs.length) (hR : InR ch gs) (v cv : Value) (w : World) (hT : Tks w v L) (hI : Ints w cv ch) (hW : Laid w) :
    Calls Tryz.prog 20 #[v, cv] w fun e w' => ∃ rv, e = .returned (.tuple #[rv, .int .i64 0]) ∧ Ints w' rv (Lx.viewL ch L outs 0) ∧ Below w.heap.size w w' := by
  have hSm := Lx.groups_small 0 (L.map Lx.kindOf) (by rw [List.length_map]; exact hlen)
  have hgr := hC.groups
  have hgl : gs.length ≤ 100000 := by rw [← hgr]; exact hSm.1
  have hF := fits_of ch gs outs hl (by omega) hC.ok (inR_ok hR)
  refine (view_calls v cv L ch w hT hI hlen hs hW.maxLen hW.blanks (by have := hW.size; omega) hC.err outs (by rw [hgr]; exact hC.places) hSm hC.len (by rw [hgr]; exact hF)).mono ?_
  rintro e w' ⟨rv, h1, h2, h3⟩
  exact ⟨rv, h1, own_ints h2, h3⟩
theorem cv_of (L : List Lx.Tok) (gs : List Lx.G) (outs : List (List (Int × Int))) (hC : Cov L gs outs) (hlen : L.length ≤ 100000) (hs : ∀ t ∈ L, t.t.size ≤ 20000) (i : Nat) (o : List (Int × Int)) (ho : outs[i]? = some o) (v : Value) (w : World) (hT : Tks w v L) (hW : Laid w) :
    Calls Tryz.prog 27 #[v, .int .i64 i] w fun e w' => ∃ ov, e = .returned (.tuple #[ov, .int .i64 0]) ∧ w'.ownsRow w.heap.size 58 2 ov o.length (pairCells o) ∧ Below w.heap.size w w' := by
  have hSm := Lx.groups_small 0 (L.map Lx.kindOf) (by rw [List.length_map]; exact hlen)
  exact of_calls v L w hT hlen hs hW hC.err outs (by rw [hC.groups]; exact hC.places) hSm hC.len i o ho
theorem viewL_len (ch : List Int) : ∀ (L : List Lx.Tok) (outs : List (List (Int × Int))) (i : Nat), (Lx.viewL ch L outs i).length ≤ L.length
  | [], outs, i => by simp [Lx.viewL]
  | t :: r, [], i => by simp [Lx.viewL]
  | t :: r, o :: s, i => by
    have ih := viewL_len ch r s (i + 1)
    unfold Lx.viewL
    split
    · simp only [List.length_cons]; omega
    · simp only [List.length_cons]; omega
theorem cv_has (L : List Lx.Tok) (outs : List (List (Int × Int))) (ch : List Int) (hlen : L.length ≤ 100000) (i : Nat) (t : Lx.Tok) (o : List (Int × Int)) (ht : L[i]? = some t) (ho : outs[i]? = some o) (v : Value) (w : World) (hI : Ints w v (Lx.viewL ch L outs 0)) :
    Calls Tryz.prog 28 #[v, .int .i64 i] w fun e w' => ∃ r : Int, e = .returned (.int .i64 r) ∧ decide (0 ≤ r) = Lx.seen t ch o ∧ w = w' := by
  refine (hasInt_calls v _ i w (Nat.le_trans (viewL_len _ _ _ _) (by omega)) hI).mono ?_
  rintro e w' ⟨r, h1, h2, h3⟩
  refine ⟨r, h1, ?_, h3⟩
  have hm := Lx.mem_view ch L outs 0 i t o ht ho
  rw [Nat.zero_add] at hm
  have hq := h2.trans hm
  cases hsn : Lx.seen t ch o
  · rw [hsn] at hq
    exact decide_eq_false fun h => absurd (hq.1 h) (by simp)
  · rw [hsn] at hq
    exact decide_eq_true (hq.2 rfl)
theorem intCells_one (l : List Int) : ∀ u ∈ intCells l, u.oneCell' = true := by
  intro u hu
  unfold intCells at hu
  obtain ⟨t, -, rfl⟩ := List.mem_map.1 hu
  rfl
theorem ints_at {w : World} {g n c : Nat} {l : List Int} (h : Ints w (.slice (some ⟨g, 0, none⟩) n c) l) (j : Nat) (x : Int) (hx : l[j]? = some x) : w.cell? ⟨g, j, none⟩ = some (.int .i64 x) ∧ g < w.heap.size := by
  obtain ⟨A, c', e, -, -, hor⟩ := h
  simp only [Value.slice.injEq] at e
  obtain ⟨rfl, -, -⟩ := e
  obtain ⟨g', o, e2, hat, hgl⟩ := hor.resolve_left (fun e => by rw [e] at hx; simp at hx)
  simp only [Option.some.injEq, Addr.mk.injEq, and_true] at e2
  obtain ⟨rfl, rfl⟩ := e2
  have := hat j x hx
  rw [Nat.zero_add] at this
  exact ⟨this, hgl⟩
theorem ch_cells {w : World} {d n c : Nat} {ch : List Int} (h : Ints w (.slice (some ⟨d, 0, none⟩) n c) ch) (o : Obj) : ∀ j u, (intCells ch)[j]? = some u → (w.alloc o).cell? ((⟨d, 0, none⟩ : Addr).add j) = some u := by
  intro j u hj
  unfold intCells at hj
  rw [List.getElem?_map] at hj
  obtain ⟨x, hx, rfl⟩ := Option.map_eq_some_iff.1 hj
  rw [add_none, Nat.zero_add]
  obtain ⟨q1, q2⟩ := ints_at h j x hx
  exact (World.cell?_alloc_lt w _ _ q2).trans q1
set_option maxRecDepth 100000 in
set_option maxHeartbeats 16000000 in
theorem covers_calls (s : ByteArray) (sv : Value) (sn : Nat) (w : World) (hS : Byts w sv sn) (hL : Laid w) (hAW : AwC) : Calls Tryz.prog 6 #[.string s, sv] w fun e w' => e = .returned (.bool true) ∧ Below w.heap.size w w' := by
  have HLD := Aside0.mk hL
  have HSV := Aside0.mk hS
  obtain ⟨SA, SC, rfl, hsc1, hsc2, -⟩ := hS
  clear hL
  by_cases hs : 3000 < s.size
  · have HSC := Aside0.mk (scanned_long s w hs)
    clear hs
    go_enter Tryz.func6, Tryz.ntmps6
    go_wp2_with (first | (go_at_call 10; (with_reducible refine HSC.out.mono ?_); rintro e w' ⟨rfl, rfl⟩))
    go_ret
    exact ⟨rfl, Below.refl _ _⟩
  · have HSC := Aside0.mk (scanned_calls s w (by omega))
    have hsl : ∀ t ∈ Lx.scan s, t.t.size ≤ 20000 := fun t ht => by have := toks_short s 0 true t ht; omega
    have hlen := scan_len s
    have hcov := cov_of s
    obtain ⟨L, hLL⟩ : ∃ L, Lx.scan s = L := ⟨_, rfl⟩
    rw [hLL] at HSC hsl hlen hcov
    have hlen5 : L.length ≤ 100000 := by omega
    have HCG := Aside0.mk (fun (v : Value) (W : World) (hT : Tks W v L) (hW : Laid W) => condGroups_calls v L W hT hlen5 hsl hW.maxLen hW.blanks (by have := hW.size; omega))
    have hSm := Lx.groups_small 0 (L.map Lx.kindOf) (by rw [List.length_map]; exact hlen5)
    obtain ⟨n, hn⟩ : ∃ n, L.length = n := ⟨_, rfl⟩
    obtain ⟨gs, hgs⟩ : ∃ gs, (Lx.groups (L.map Lx.kindOf)).1 = gs := ⟨_, rfl⟩
    obtain ⟨E, hE⟩ : ∃ E, (Lx.groups (L.map Lx.kindOf)).2.1 = E := ⟨_, rfl⟩
    obtain ⟨PZ, hPZ⟩ : ∃ PZ, (Lx.groups (L.map Lx.kindOf)).2.2 = PZ := ⟨_, rfl⟩
    have hgl5 : gs.length ≤ 100000 := by rw [← hgs]; exact hSm.1
    obtain ⟨gn, hgn⟩ : ∃ gn, gs.length = gn := ⟨_, rfl⟩
    rw [hgs, hE] at hcov
    simp only [hgs, hE, hPZ] at HCG
    rw [hn] at HSC hlen
    rw [hgn] at hgl5
    have HN := Aside0.mk hn
    have HGN := Aside0.mk hgn
    have HCOV := Aside0.mk hcov
    have HSL := Aside0.mk hsl
    have HL5 := Aside0.mk hlen5
    have hn3 : n ≤ 3001 := by omega
    clear hs hLL hsl hlen hcov hSm hn hgs hE hPZ hgn hlen5
    by_cases hbad : (E != 0 || decide ((40 : Int) < (gn : Int))) = true
    · have hor : (E != 0) = true ∨ ((E != 0) = false ∧ decide ((40 : Int) < (gn : Int)) = true) := by
        cases h : (E != 0)
        · rw [h, Bool.false_or] at hbad; exact .inr ⟨rfl, hbad⟩
        · exact .inl rfl
      clear hbad
      rcases hor with h1 | ⟨h1, h2⟩
      all_goals
        go_enter Tryz.func6, Tryz.ntmps6
        go_wp2_with (first
          | (go_at_call 10; (with_reducible refine HSC.out.mono ?_); rintro e w1 ⟨v, rfl, hv, hb⟩; have ht := own_tks (L := L) (by rw [HN.out]; exact hv); have HT := Aside0.mk ht; have HB1 := Aside0.mk hb; have HL1 := Aside0.mk (HLD.out.below hb); clear hv hb ht) | (go_at_call 16; (refine (HCG.out _ w1 HT.out HL1.out).mono ?_); rintro e w2 ⟨gv, rfl, hgrp, hb⟩; have hgv : ∃ A c, gv = .slice A gn c := (by obtain ⟨ls, e1, e2, e3⟩ := hgrp; rw [HGN.out] at e2; exact own_slice e2); obtain ⟨GA, GC, rfl⟩ := hgv; have HB2 := Aside0.mk (HB1.out.trans (hb.mono HB1.out.size)); have HL2 := Aside0.mk (HL1.out.below hb); clear hgrp hb) | (go_at_call 19; (refine (hAW w2 HL2.out).mono ?_); rintro e w8 ⟨rfl, hb⟩; have HB8 := Aside0.mk (HB2.out.trans (hb.mono HB2.out.size)); clear hb))
        go_ret
        exact ⟨rfl, HB8.out⟩
    · rw [Bool.not_eq_true, Bool.or_eq_false_iff] at hbad
      obtain ⟨h1, h2⟩ := hbad
      have hE0 : E = 0 := by simpa using h1
      subst hE0
      obtain ⟨outs, hC⟩ := HCOV.out rfl
      have HC := Aside0.mk hC
      have hmk := print_make_of (P := Tryz.prog) 39 3 (.int .i64 0) 8 Tryz.underlying39 (by kernel_rfl) rfl (by decide) gn (by omega)
      obtain ⟨i0, hi9, hz0, hz1, hz2⟩ := info_parts info3
      have hg40 : gn ≤ 40 := by have := of_decide_eq_false h2; omega
      clear hC HCOV h1
      go_enter Tryz.func6, Tryz.ntmps6
      go_wp2_with (first
        | (go_at_call 10; (with_reducible refine HSC.out.mono ?_); rintro e w1 ⟨v, rfl, hv, hb⟩; have ht := own_tks (L := L) (by rw [HN.out]; exact hv); obtain ⟨A, c, rfl⟩ := own_slice hv; have HT := Aside0.mk ht; have HB1 := Aside0.mk hb; have HL1 := Aside0.mk (HLD.out.below hb); have HS1 := Aside0.mk (HSV.out.below hb); clear hv hb ht) | (go_at_call 16; (refine (HCG.out _ w1 HT.out HL1.out).mono ?_); rintro e w2 ⟨gv, rfl, hgrp, hb⟩; have hgv : ∃ A c, gv = .slice A gn c := (by obtain ⟨ls, e1, e2, e3⟩ := hgrp; rw [HGN.out] at e2; exact own_slice e2); obtain ⟨GA, GC, rfl⟩ := hgv; have HG2 := Aside0.mk hgrp; have HB2 := Aside0.mk (HB1.out.trans (hb.mono HB1.out.size)); have HL2 := Aside0.mk (HL1.out.below hb); have HT2 := Aside0.mk (HT.out.below hb); have HS2 := Aside0.mk (HS1.out.below hb); clear hgrp hb))
      obtain ⟨d, hd⟩ : ∃ d, w2.heap.size = d := ⟨_, rfl⟩
      have hown0 := World.ownsRow_lit (base := w2.heap.size) (e := 3) (size := 1) w2 (madeCells #[.int .i64 0] gn) gn (Nat.le_refl _) (by unfold maxLen; omega) (by simp [size_madeCells])
      rw [toList_madeCells_one] at hown0
      have hbw0 : Below w2.heap.size w2 (w2.alloc (.cells (madeCells #[.int .i64 0] gn) 3)) := (Below.refl _ _).alloc (Nat.le_refl _) _
      have hz : InR (List.replicate gn 0) gs := fun j x g hx hg => by
        have h0 := (List.mem_replicate.1 (List.mem_of_getElem? hx)).2
        have := HC.out.br g (List.mem_of_getElem? hg)
        omega
      have ez : List.replicate gn (Value.int .i64 0) = intCells (List.replicate gn 0) := by unfold intCells; rw [List.map_replicate]
      rw [ez] at hown0
      have HOWN0 := Aside0.mk hown0
      have HBW0 := Aside0.mk hbw0
      have HZ := Aside0.mk hz
      clear hd hmk hown0 hbw0 hz ez
      go_loopg [11] gn (fun kq v11 W => ∃ (i : Nat) (ch : List Int), v11 = .int .i64 i ∧ Aside0 (i ≤ gn ∧ kq = gn - i ∧ ch.length = gn ∧ InR ch gs) ∧ Aside0 (W.ownsRow w2.heap.size 3 1 (.slice (some ⟨w2.heap.size, 0, none⟩) gn gn) gn (intCells ch)) ∧ Aside0 (Below w2.heap.size w2 W))
      case atStart => exact ⟨0, List.replicate gn 0, rfl, ⟨by omega, rfl, by rw [List.length_replicate], HZ.out⟩, HOWN0, HBW0⟩
      case round =>
        obtain ⟨i, ch, rfl, HJ, HOW, HBW⟩ := hrel
        have hi := HJ.out.1
        by_cases hlt : i < gn
        · obtain ⟨g, hg⟩ : ∃ g, gs[i]? = some g := ⟨_, List.getElem?_eq_getElem (by have := HGN.out; omega)⟩
          obtain ⟨gb, c', gl, cl, hgv, a0, a1, a2, a3, -, -, -, -, hgb1, -⟩ := HG2.out.at i g hg
          simp only [Value.slice.injEq] at hgv
          obtain ⟨rfl, -, rfl⟩ := hgv
          have a1 := (HBW.out.cell hgb1).trans a1
          have hgbw : gb < wr.heap.size := Nat.lt_of_lt_of_le hgb1 HBW.out.size
          have hbr := HC.out.br g (List.mem_of_getElem? hg)
          obtain ⟨br, hbe⟩ : ∃ br, g.br = br := ⟨_, rfl⟩
          rw [hbe] at a1 hbr
          have HG := Aside0.mk hg
          have HBE := Aside0.mk hbe
          have hd1 : decide (br < 1) = false := decide_eq_false (by omega)
          have hi0 : (0 : Int) ≤ (i : Int) := Int.natCast_nonneg _
          have hin : (i : Int) < (gn : Int) := by omega
          obtain ⟨SA', SC', e1, -, -, hor⟩ := HS2.out.below HBW.out
          simp only [Value.slice.injEq] at e1
          obtain ⟨rfl, -, rfl⟩ := e1
          clear hg hbe a0 a2 a3
          rcases Nat.eq_zero_or_pos sn with h0 | h0
          · subst h0
            clear hor
            go_wp2_with fail
            go_roundg (gn - (i + 1))
            case measure => have := HJ.out.2.1; omega
            case rel => exact ⟨i + 1, ch, by go_num, ⟨by omega, rfl, HJ.out.2.2⟩, HOW, HBW⟩
          · obtain ⟨sg, so, rfl, hsg, hcs⟩ := hor.resolve_left (by omega)
            have hpos : decide ((0 : Int) < (sn : Int)) = true := decide_eq_true (by omega)
            obtain ⟨x, x1, x2, x3⟩ := hcs (i % sn) (Nat.mod_lt _ h0)
            have hsgw : sg < wr.heap.size := hsg
            obtain ⟨q, hq⟩ : ∃ q, i % sn = q := ⟨_, rfl⟩
            rw [hq] at x3
            have hmod : (i : Int) % (sn : Int) = (q : Int) := by rw [← hq]; rfl
            have hqn : q < sn := by rw [← hq]; exact Nat.mod_lt _ h0
            obtain ⟨y, hy⟩ : ∃ y, ch[i]? = some y := ⟨_, List.getElem?_eq_getElem (by have := HJ.out.2.2.1; omega)⟩
            have y0 : wr.cell? ⟨w2.heap.size, i, none⟩ = some (.int .i64 y) := by
              rw [HOW.out.cellAt i (by omega)]
              unfold intCells
              rw [List.getElem?_map, hy]; rfl
            obtain ⟨cur, hcur, -⟩ := own_heap HOW.out
            have yf := blk_frozen hcur i
            have hdl := blk_lt hcur
            have hz0 := Int.emod_nonneg x (show br ≠ 0 by omega)
            have hz1 := Int.emod_lt_of_pos x (show 0 < br by omega)
            have HZ0 := Aside0.mk hz0
            have HZ1 := Aside0.mk hz1
            have HX1 := Aside0.mk x1
            clear hcs hor hq hy hcur hz0 hz1
            go_wp2_with fail
            go_region
            go_wp2_with fail
            go_roundg (gn - (i + 1))
            case measure => have := HJ.out.2.1; omega
            case rel =>
              have hst := (HOW.out.stored i (.int .i64 (x % br))).1
              refine ⟨i + 1, ch.set i (x % br), by go_num, ⟨by omega, rfl, by rw [List.length_set]; exact HJ.out.2.2.1, ?_⟩, ⟨?_⟩, ⟨(HBW.out.setCell (p := ⟨w2.heap.size, i, none⟩) (Nat.le_refl _) _).drew⟩⟩
              · intro j z g' hz hg'
                rw [List.getElem?_set] at hz
                split at hz
                · rename_i e
                  subst e
                  split at hz
                  · cases hz
                    rw [HG.out] at hg'
                    cases hg'
                    rw [HBE.out]
                    exact ⟨HZ0.out, HZ1.out⟩
                  · cases hz
                · exact HJ.out.2.2.2 j z g' hz hg'
              · have h3 : (intCells ch).set i (.int .i64 (x % br)) = intCells (ch.set i (x % br)) := by unfold intCells; rw [List.map_set]
                rw [h3] at hst
                exact own_kept_no hst (grown_drew (World.grownBy.refl _ _))
        · obtain rfl : i = gn := by omega
          obtain ⟨w3, rfl⟩ : ∃ w3, w3 = wr := ⟨_, rfl⟩
          have hcl := HJ.out.2.2.1
          have hcr := HJ.out.2.2.2
          have HCL := Aside0.mk hcl
          have HCR := Aside0.mk hcr
          have hci : Ints w3 (.slice (some ⟨w2.heap.size, 0, none⟩) i i) ch := own_ints (by rw [hcl]; exact HOW.out)
          have hl3 := HL2.out.below HBW.out
          have ht3 := HT2.out.below HBW.out
          have hb3 := HB2.out.trans (HBW.out.mono HB2.out.size)
          have hvw := cv_view L gs outs HC.out HL5.out HSL.out ch (by rw [hcl, HGN.out]) hcr _ _ w3 ht3 hci hl3
          have HVW := Aside0.mk hvw
          have HCI3 := Aside0.mk hci
          have HL3 := Aside0.mk hl3
          have HT3 := Aside0.mk ht3
          have HB3 := Aside0.mk hb3
          clear hlt hi hcl hcr hci hl3 ht3 hb3 hvw
          go_wp2_with (first | (go_at_call 20; (with_reducible refine HVW.out.mono ?_); rintro e w4 ⟨rv, rfl, hi, hb⟩; have HRV := Aside0.mk hi; have HB4 := Aside0.mk (HB3.out.trans (hb.mono HB3.out.size)); have HL4 := Aside0.mk (HL3.out.below hb); have HT4 := Aside0.mk (HT3.out.below hb); have HCI4 := Aside0.mk (HCI3.out.below hb); clear hi hb))
          go_loopg [13] n (fun kq v13 W => ∃ j : Nat, v13 = .int .i64 j ∧ Aside0 (j ≤ n ∧ kq = n - j) ∧ Aside0 (Below w4.heap.size w4 W))
          case atStart => exact ⟨0, rfl, ⟨by omega, rfl⟩, ⟨Below.refl _ _⟩⟩
          case round =>
            obtain ⟨j, rfl, HK, HW4⟩ := hrel
            have hj := HK.out.1
            obtain ⟨w5, rfl⟩ : ∃ w5, w5 = wr := ⟨_, rfl⟩
            have HL5' := Aside0.mk (HL4.out.below HW4.out)
            have HT5 := Aside0.mk (HT4.out.below HW4.out)
            have HCI5 := Aside0.mk (HCI4.out.below HW4.out)
            have HRV5 := Aside0.mk (HRV.out.below HW4.out)
            have HB5 := Aside0.mk (HB4.out.trans (HW4.out.mono HB4.out.size))
            by_cases hjl : j < n
            · obtain ⟨t, ht⟩ : ∃ t, L[j]? = some t := ⟨_, List.getElem?_eq_getElem (by have := HN.out; omega)⟩
              obtain ⟨o, ho⟩ : ∃ o, outs[j]? = some o := ⟨_, List.getElem?_eq_getElem (by have := HC.out.len; have := HN.out; omega)⟩
              have hof := cv_of L gs outs HC.out HL5.out HSL.out j o ho _ w5 HT5.out HL5'.out
              have HOF := Aside0.mk hof
              have HT0 := Aside0.mk ht
              have HO0 := Aside0.mk ho
              obtain ⟨m, hm⟩ : ∃ m, o.length = m := ⟨_, rfl⟩
              have hm5 : m ≤ 40 := by rw [← hm]; have := (HC.out.ok o (List.mem_of_getElem? ho)).1; have := HGN.out; omega
              have HM := Aside0.mk hm
              rw [hm] at HOF
              clear ht ho hof hm
              go_wp2_with (first | (go_at_call 27; (with_reducible refine HOF.out.mono ?_); rintro e w6 ⟨ov, rfl, ho, hb⟩; obtain ⟨OA, OC, rfl⟩ := own_slice ho; have HOV := Aside0.mk ho; have HB6 := Aside0.mk hb; have HCI6 := Aside0.mk (HCI5.out.below hb); clear ho hb) | (at_builtin; refine wpList_append_own_at _ rfl (.tmp 99) (.tmp 100) 39 rfl w6.heap.size 3 i0 _ 1 8 Tryz.underlying39 hi9 hz0 hz1 hz2 rfl (by omega) (.slice (some ⟨w6.heap.size, 0, none⟩) 0 0) 0 [] (by rfl) (World.ownsRow_lit (base := w6.heap.size) (e := 3) (size := 1) w6 #[] 0 (Nat.le_refl _) (by unfold maxLen; omega) rfl) ⟨w2.heap.size, 0, none⟩ i i (intCells ch) (by rfl) (by unfold intCells; rw [List.length_map, HCL.out]; omega) (ch_cells HCI6.out _) (intCells_one ch) (by unfold maxLen; omega) (by omega) (by simp) ?_; intro v1 w7 hv1 hg1 hnil1 hat1; have hv2 := own_cast hv1 (Nat.zero_add i); rw [List.nil_append] at hv2; obtain ⟨WA, WC, rfl⟩ := own_slice hv2; have HV7 := Aside0.mk hv2; have HG7 := Aside0.mk (grown_alloc_new hg1); clear hv1 hv2 hg1 hnil1 hat1))
              have hb67 : Below w6.heap.size w6 w7 := (Below.refl _ _).grown HG7.out (Nat.le_refl _) (fun k hk => by cases hk)
              have HB67 := Aside0.mk hb67
              clear hb67
              go_loopg [17, 18] m (fun kq v17 v18 W => ∃ k : Nat, v18 = .int .i64 k ∧ v17 = .bool (!Lx.hidden ch (o.take k)) ∧ Aside0 (k ≤ m ∧ kq = m - k) ∧ Aside0 (W.ownsRow w6.heap.size 3 1 (.slice WA i WC) i (intCells (Lx.turned ch (o.take k)))) ∧ Aside0 (Below w6.heap.size w6 W))
              case atStart => exact ⟨0, rfl, rfl, ⟨by omega, rfl⟩, HV7, HB67⟩
              case round =>
                obtain ⟨k, rfl, rfl, HJK, HOWN, HW6⟩ := hrel
                have hk := HJK.out.1
                obtain ⟨hv, hhv⟩ : ∃ hv, Lx.hidden ch (o.take k) = hv := ⟨_, rfl⟩
                have HHV := Aside0.mk hhv
                rw [hhv]
                clear hhv
                by_cases hkm : k < m
                · obtain ⟨p, hp⟩ : ∃ p, o[k]? = some p := ⟨_, List.getElem?_eq_getElem (by have := HM.out; omega)⟩
                  obtain ⟨pr1, pr2⟩ := pair_at o k p hp
                  obtain ⟨jg, g, e1, e2, e3, e4⟩ := (HC.out.fine o (List.mem_of_getElem? HO0.out)).2 p (List.mem_of_getElem? hp)
                  have hjg : jg < i := by have := (List.getElem?_eq_some_iff.1 e2).1; have := HGN.out; omega
                  obtain ⟨p1, pb⟩ := p
                  dsimp only at e1 pr1 pr2 e3 e4
                  subst e1
                  obtain ⟨og, oc, eo, -, hogl⟩ := HOV.out.form (by omega)
                  simp only [Value.slice.injEq] at eo
                  obtain ⟨rfl, -, rfl⟩ := eo
                  have o0 := (HW6.out.cell hogl).trans ((HOV.out.cellAt (k * 2) (by omega)).trans pr1)
                  have o1 := (HW6.out.cell hogl).trans ((HOV.out.cellAt (k * 2 + 1) (by omega)).trans pr2)
                  have hogw : og < wr.heap.size := Nat.lt_of_lt_of_le hogl HW6.out.size
                  obtain ⟨x, hx⟩ : ∃ x, ch[jg]? = some x := ⟨_, List.getElem?_eq_getElem (by have := HCL.out; omega)⟩
                  obtain ⟨x0', hcl6⟩ := ints_at HCI6.out jg x hx
                  have x0 := (HW6.out.cell hcl6).trans x0'
                  have hclw : w2.heap.size < wr.heap.size := Nat.lt_of_lt_of_le hcl6 HW6.out.size
                  obtain ⟨ob, obc, eb, hobb, hobl⟩ := HOWN.out.form (by omega)
                  simp only [Value.slice.injEq] at eb
                  obtain ⟨rfl, -, rfl⟩ := eb
                  obtain ⟨z, hz⟩ : ∃ z, (Lx.turned ch (o.take k))[jg]? = some z := ⟨_, List.getElem?_eq_getElem (by rw [Lx.turned_len, HCL.out]; omega)⟩
                  have z0 : wr.cell? ⟨ob, jg, none⟩ = some (.int .i64 z) := by
                    rw [HOWN.out.cellAt jg (by omega)]
                    unfold intCells
                    rw [List.getElem?_map, hz]; rfl
                  have zf := HOWN.out.frozenAt jg
                  have hoth : Lx.other ch ((jg : Int), pb) = !(x == pb) := by
                    unfold Lx.other
                    dsimp only
                    rw [Int.toNat_natCast, List.getD_eq_getElem?_getD, hx]; rfl
                  obtain ⟨pe, hpe⟩ : ∃ pe, (x == pb) = pe := ⟨_, rfl⟩
                  rw [hpe] at hoth
                  have HTK := Aside0.mk (hidden_take ch o k _ hp)
                  have HTU := Aside0.mk (turned_take ch o k _ hp)
                  have HOTH := Aside0.mk hoth
                  have hj0 : (0 : Int) ≤ (jg : Int) := Int.natCast_nonneg _
                  have hjn : (jg : Int) < (i : Int) := by omega
                  have hd2 : decide ((jg : Int) < 0) = false := decide_eq_false (by omega)
                  have hd3 : decide ((i : Int) ≤ (jg : Int)) = false := decide_eq_false (by omega)
                  clear hp pr1 pr2 e2 e3 e4 hogl hx x0' hcl6 hz hoth
                  cases hv
                  · cases pe
                    · go_wp2_with fail
                      go_quiet (fail)
                      go_wp2_with fail
                      go_region
                      go_wp2_with fail
                      go_roundg (m - (k + 1))
                      case measure => have := HJK.out.2; omega
                      case rel =>
                        refine ⟨k + 1, by go_num, ?_, ⟨by omega, rfl⟩, ⟨?_⟩, ⟨?_⟩⟩
                        · rw [HTK.out, HHV.out, HOTH.out]; rfl
                        · have hdr : ∀ q, (wr.drewN q).ownsRow w6.heap.size 3 1 (.slice (some ⟨ob, 0, none⟩) i WC) i (intCells (Lx.turned ch (o.take k))) := fun q => own_kept_no HOWN.out (grown_drewN (World.grownBy.refl _ _) q)
                          rw [HTU.out, show (intCells ((Lx.turned ch (o.take k)).set ((jg : Int), pb).1.toNat ((jg : Int), pb).2)) = (intCells (Lx.turned ch (o.take k))).set jg (.int .i64 pb) by unfold intCells; rw [List.map_set]; rfl]
                          exact ((hdr _).stored jg (.int .i64 pb)).1
                        · have hdb : ∀ q, Below w6.heap.size w6 (wr.drewN q) := fun q => HW6.out.trans ⟨rfl, rfl, rfl, Nat.le_refl _, fun _ _ => rfl⟩
                          exact (hdb _).setCell (p := ⟨ob, jg, none⟩) hobb _
                    · go_wp2_with fail
                      go_quiet (fail)
                      go_wp2_with fail
                      go_region
                      go_wp2_with fail
                      go_roundg (m - (k + 1))
                      case measure => have := HJK.out.2; omega
                      case rel =>
                        refine ⟨k + 1, by go_num, ?_, ⟨by omega, rfl⟩, ⟨?_⟩, ⟨?_⟩⟩
                        · rw [HTK.out, HHV.out, HOTH.out]; rfl
                        · have hdr : ∀ q, (wr.drewN q).ownsRow w6.heap.size 3 1 (.slice (some ⟨ob, 0, none⟩) i WC) i (intCells (Lx.turned ch (o.take k))) := fun q => own_kept_no HOWN.out (grown_drewN (World.grownBy.refl _ _) q)
                          rw [HTU.out, show (intCells ((Lx.turned ch (o.take k)).set ((jg : Int), pb).1.toNat ((jg : Int), pb).2)) = (intCells (Lx.turned ch (o.take k))).set jg (.int .i64 pb) by unfold intCells; rw [List.map_set]; rfl]
                          exact ((hdr _).stored jg (.int .i64 pb)).1
                        · have hdb : ∀ q, Below w6.heap.size w6 (wr.drewN q) := fun q => HW6.out.trans ⟨rfl, rfl, rfl, Nat.le_refl _, fun _ _ => rfl⟩
                          exact (hdb _).setCell (p := ⟨ob, jg, none⟩) hobb _
                  · go_wp2_with fail
                    go_quiet (fail)
                    go_wp2_with fail
                    go_region
                    go_wp2_with fail
                    go_roundg (m - (k + 1))
                    case measure => have := HJK.out.2; omega
                    case rel =>
                      refine ⟨k + 1, by go_num, ?_, ⟨by omega, rfl⟩, ⟨?_⟩, ⟨?_⟩⟩
                      · rw [HTK.out, HHV.out, HOTH.out]; rfl
                      · have hdr : ∀ q, (wr.drewN q).ownsRow w6.heap.size 3 1 (.slice (some ⟨ob, 0, none⟩) i WC) i (intCells (Lx.turned ch (o.take k))) := fun q => own_kept_no HOWN.out (grown_drewN (World.grownBy.refl _ _) q)
                        rw [HTU.out, show (intCells ((Lx.turned ch (o.take k)).set ((jg : Int), pb).1.toNat ((jg : Int), pb).2)) = (intCells (Lx.turned ch (o.take k))).set jg (.int .i64 pb) by unfold intCells; rw [List.map_set]; rfl]
                        exact ((hdr _).stored jg (.int .i64 pb)).1
                      · have hdb : ∀ q, Below w6.heap.size w6 (wr.drewN q) := fun q => HW6.out.trans ⟨rfl, rfl, rfl, Nat.le_refl _, fun _ _ => rfl⟩
                        exact (hdb _).setCell (p := ⟨ob, jg, none⟩) hobb _
                · obtain rfl : k = m := by omega
                  obtain ⟨w8, rfl⟩ : ∃ w8, w8 = wr := ⟨_, rfl⟩
                  have hall := List.take_length (l := o)
                  rw [HM.out] at hall
                  have hhv := HHV.out
                  rw [hall] at hhv
                  have hown := HOWN.out
                  rw [hall] at hown
                  have hb58 := HB6.out.trans (HW6.out.mono HB6.out.size)
                  have hl8 := HL5'.out.below hb58
                  have ht8 := HT5.out.below hb58
                  have hrv8 := HRV5.out.below hb58
                  have hown' : Ints w8 (.slice WA i WC) (Lx.turned ch o) := own_ints (by rw [Lx.turned_len, HCL.out]; exact hown)
                  have hfine := HC.out.fine o (List.mem_of_getElem? HO0.out)
                  have hh1 := cv_has L outs ch HL5.out j t o HT0.out HO0.out rv w8 hrv8
                  rw [cov_seen HC.out ch j t o HT0.out HO0.out, hhv] at hh1
                  have hvo := cv_view L gs outs HC.out HL5.out HSL.out (Lx.turned ch o) (by rw [Lx.turned_len, HCL.out, HGN.out]) (inR_turned HCR.out hfine) (.slice A n c) (.slice WA i WC) w8 ht8 hown' hl8
                  have hh2 := fun (v : Value) (W : World) (hI : Ints W v (Lx.viewL (Lx.turned ch o) L outs 0)) => cv_has L outs (Lx.turned ch o) HL5.out j t o HT0.out HO0.out v W hI
                  rw [cov_turned HC.out ch (by rw [HCL.out, HGN.out]) j t o HT0.out HO0.out] at hh2
                  obtain ⟨TA, TC, et, -, -, hor⟩ := ht8
                  simp only [Value.slice.injEq] at et
                  obtain ⟨rfl, -, rfl⟩ := et
                  obtain ⟨tg, tf, rfl, hta, htgl⟩ := hor.resolve_left (fun e => by have := HT0.out; rw [e] at this; simp at this)
                  obtain ⟨a0, a1, a2, a3⟩ := hta j t HT0.out
                  have HB58 := Aside0.mk hb58
                  obtain ⟨lb, hlb⟩ : ∃ lb, (t.k == 7) = lb := ⟨_, rfl⟩
                  rw [hlb] at hh1 hh2
                  have HH1 := Aside0.mk hh1
                  have HVO := Aside0.mk hvo
                  have HH2 := Aside0.mk hh2
                  clear hall hhv hown hb58 hl8 hrv8 hown' hfine hh1 hvo hh2 hor hta a1 a2 a3 hkm
                  cases hv <;> cases lb
                  all_goals
                    go_wp2_with (first
                      | (go_at_call 28; (with_reducible refine HH1.out.mono ?_); rintro e w' ⟨r, rfl, hr, rfl⟩) | (go_at_call 20; (with_reducible refine HVO.out.mono ?_); rintro e w9 ⟨rv2, rfl, hi, hb⟩; have HH3 := Aside0.mk (HH2.out rv2 w9 hi); have HB9 := Aside0.mk hb; clear hi hb) | (go_at_call 28; (with_reducible refine HH3.out.mono ?_); rintro e w' ⟨r2, rfl, hr2, rfl⟩))
                    go_roundg (n - (j + 1))
                    case measure => have := HK.out.2; omega
                    case rel =>
                      have h59 := HB58.out.trans (HB9.out.mono HB58.out.size)
                      exact ⟨j + 1, by go_num, ⟨by omega, rfl⟩, ⟨HW4.out.trans (h59.mono HW4.out.size)⟩⟩
            · obtain rfl : j = n := by omega
              have HAW := Aside0.mk (hAW w5 HL5'.out)
              go_wp2_with (first | (go_at_call 19; (with_reducible refine HAW.out.mono ?_); rintro e w9 ⟨rfl, hb⟩; have HB9 := Aside0.mk (HB5.out.trans (hb.mono HB5.out.size)); clear hb))
              go_ret
              exact ⟨rfl, HB9.out⟩
end Go.Proofs.YtjnafjgonoficaaGreatDoor
namespace Go.Proofs.YtjnafjgonoficaaGreatDoor
open Go.ChangeShapes Go.WideShapes Go.ChangeAt Go.RowKit Go.WideMaps Go.WideElems
set_option linter.unusedVariables false
set_option linter.unusedSimpArgs false
theorem cells5 : Tryz.prog.cellsOf 5 = 1 := by kernel_rfl
set_option maxRecDepth 100000 in
theorem bytes_arg {H : Type} {enc : TypeId × Value → H} {W : World} {base : Nat} {v : Value} {d : DataW H} {ps : List MemPlace} (hv : Value.okWide Tryz.prog W .any base 54 v) (h : DataW.Trod enc Tryz.prog W 0 (fun _ => true) true 54 v d ps) : ∃ n, Byts W v n := by
  obtain ⟨a, len, cap, rfl⟩ := okWide_slice Tryz.underlying54 hv
  obtain ⟨fuel, hf⟩ := h
  rcases open_ints Tryz.underlying54 Tryz.underlying5 cells5 hf with ⟨e, -⟩ | ⟨a', len', cap', zs, e, -, hlc, hcm, hzl, -, hc, hwf⟩
  · have e := List.head_eq_of_cons_eq e
    simp only [Value.slice.injEq] at e
    obtain ⟨rfl, rfl, rfl⟩ := e
    exact ⟨0, none, 0, rfl, Nat.le_refl _, Nat.zero_le _, .inl rfl⟩
  · have e := List.head_eq_of_cons_eq e
    simp only [Value.slice.injEq] at e
    obtain ⟨rfl, rfl, rfl⟩ := e
    rw [if_pos rfl] at hzl
    refine ⟨len, some a', cap, rfl, hlc, hcm, ?_⟩
    by_cases h0 : len = 0
    · exact .inl h0
    · right
      obtain ⟨g, o, sp⟩ := a'
      have hsp : sp = none := by
        have := hc 0 (by omega)
        unfold World.cell? at this
        rw [show (Addr.add ⟨g, o, sp⟩ 0) = ⟨g, o, sp⟩ from rfl] at this
        dsimp only at this
        cases hb : W.heap[g]? with
        | none => rw [hb] at this; cases this
        | some x =>
          rw [hb] at this
          cases sp with
          | none => rfl
          | some y => cases x <;> simp at this
      subst hsp
      have hlt : g < W.heap.size := cell_lt (o := o) (hc 0 (by omega))
      refine ⟨g, o, rfl, hlt, fun i hi => ?_⟩
      have h1 := hc i (by omega)
      rw [add_none] at h1
      have hz : i < zs.length := by omega
      have hm : zs.getD i 0 ∈ zs := by
        rw [List.getD_eq_getElem?_getD, List.getElem?_eq_getElem hz]
        exact List.getElem_mem hz
      have h2 := hwf _ hm
      have h3 : IntKind.u8.min ≤ zs.getD i 0 ∧ zs.getD i 0 ≤ IntKind.u8.max := by
        unfold Lit.wf at h2
        rw [Bool.and_eq_true] at h2
        exact ⟨of_decide_eq_true h2.1, of_decide_eq_true h2.2⟩
      have e1 : IntKind.u8.min = 0 := rfl
      have e2 : IntKind.u8.max = 255 := rfl
      rw [e1, e2] at h3
      exact ⟨_, h3.1, by omega, h1⟩
end Go.Proofs.YtjnafjgonoficaaGreatDoor
