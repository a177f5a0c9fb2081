/-
  The groups of a text, plainly; what opens a group. Conditions: none.
  The groups of a text, plainly: a stack of open groups, the groups found so far. No program in sight. Conditions: none.
  The groups of a text, plainly: what is said of a whole text, and what holds on the way. No program in sight. Conditions: none.
  The places of a text's tokens, plainly: through which groups and branches one goes, from outside in. No program in sight. Conditions: none.
  The evaluator of conditions, plainly: what it computes of words, with a bound on its steps. No program in sight. Conditions: none.
-/
import Derived.Test.YtjnafjgonoficaaGreatDoorK07
namespace Go.Proofs.YtjnafjgonoficaaGreatDoor
open Go.RowKit Go.Proofs.YtjnafjgonoficaaGreatDoorW.PrintWords
set_option linter.unusedVariables false
set_option linter.unusedSimpArgs false
namespace Lx
def sIf : List UInt8 := [105, 102]
def sIfdef : List UInt8 := [105, 102, 100, 101, 102]
def sIfndef : List UInt8 := [105, 102, 110, 100, 101, 102]
def sElif : List UInt8 := [101, 108, 105, 102]
def sElse : List UInt8 := [101, 108, 115, 101]
def sEndif : List UInt8 := [101, 110, 100, 105, 102]
/-- Does a kind open a group? -/
def opens (k : ByteArray) : Bool := k.toList == sIf || k.toList == sIfdef || k.toList == sIfndef
end Lx
theorem opens_calls (k : ByteArray) (w : World) :
    Calls Tryz.prog 43 #[.string k] w fun e w' => e = .returned (.bool (Lx.opens k)) ∧ w = w' := by
  unfold Lx.opens
  obtain ⟨a, ha⟩ : ∃ a, (k.toList == Lx.sIf) = a := ⟨_, rfl⟩
  obtain ⟨b, hb⟩ : ∃ b, (k.toList == Lx.sIfdef) = b := ⟨_, rfl⟩
  obtain ⟨c, hc⟩ : ∃ c, (k.toList == Lx.sIfndef) = c := ⟨_, rfl⟩
  rw [ha, hb, hc]
  unfold Lx.sIf at ha
  unfold Lx.sIfdef at hb
  unfold Lx.sIfndef at hc
  cases a <;> cases b <;> cases c
  all_goals
    go_enter Tryz.func43, Tryz.ntmps43
    go_wp2_with fail
    go_ret
    exact ⟨by simp, rfl⟩
theorem opensr_calls (k : ByteArray) (w : World) :
    Calls Tryz.prog 45 #[.string k] w fun e w' => e = .returned (.bool (Lx.opens k)) ∧ w = w' := by
  unfold Lx.opens
  obtain ⟨a, ha⟩ : ∃ a, (k.toList == Lx.sIf) = a := ⟨_, rfl⟩
  obtain ⟨b, hb⟩ : ∃ b, (k.toList == Lx.sIfdef) = b := ⟨_, rfl⟩
  obtain ⟨c, hc⟩ : ∃ c, (k.toList == Lx.sIfndef) = c := ⟨_, rfl⟩
  rw [ha, hb, hc]
  unfold Lx.sIf at ha
  unfold Lx.sIfdef at hb
  unfold Lx.sIfndef at hc
  cases a <;> cases b <;> cases c
  all_goals
    go_enter Tryz.func45, Tryz.ntmps45
    go_wp2_with fail
    go_ret
    exact ⟨by simp, rfl⟩
end Go.Proofs.YtjnafjgonoficaaGreatDoor
namespace Go.Proofs.YtjnafjgonoficaaGreatDoor
open Go.RowKit Go.Proofs.YtjnafjgonoficaaGreatDoorW.PrintWords
set_option linter.unusedVariables false
set_option linter.unusedSimpArgs false
namespace Lx
/-- A group. -/
structure G where
  lines : List Int
  br : Int
  par : Int
  bch : Int
/-- What is known on the way: the groups; the open ones' numbers, branches, and whether an else came, innermost first. -/
structure GS where
  gs : List G
  st : List (Nat × Nat × Bool)
def closes (k : ByteArray) : Bool := k.toList == sElif || k.toList == sElse || k.toList == sEndif
/-- One directive; 'c': how many branches a group has that is open. -/
def gstep (c : Int) (S : GS) (k : ByteArray) (i : Nat) : Option GS :=
  if opens k = true then
    match S.st with
    | [] => some ⟨S.gs ++ [⟨[(i : Int)], c, -1, 0⟩], [(S.gs.length, 0, false)]⟩
    | (n, b, e) :: r => some ⟨S.gs ++ [⟨[(i : Int)], c, n, b⟩], (S.gs.length, 0, false) :: (n, b, e) :: r⟩
  else if closes k = true then
    match S.st with
    | [] => none
    | (n, b, e) :: r =>
      if (e && !(k.toList == sEndif)) = true then none
      else if (k.toList == sEndif) = true then
        some ⟨S.gs.modify n fun g => ⟨g.lines ++ [(i : Int)], (g.lines.length : Int) + (if e = true then 0 else 1), g.par, g.bch⟩, r⟩
      else some ⟨S.gs.modify n fun g => ⟨g.lines ++ [(i : Int)], g.br, g.par, g.bch⟩, (n, b + 1, k.toList == sElse) :: r⟩
  else some S
/-- The directives from a place on; a number: that one does not belong where it is. -/
def grun (c : Int) : GS → List ByteArray → Nat → GS ⊕ Nat
  | S, [], _ => .inl S
  | S, k :: r, i => match gstep c S k i with | none => .inr i | some T => grun c T r (i + 1)
/-- Two ways that differ at most in the branches of open groups. -/
def Near (S T : GS) : Prop := S.st = T.st ∧ S.gs.length = T.gs.length ∧ ∀ (i : Nat) (g h : G), S.gs[i]? = some g → T.gs[i]? = some h → g.lines = h.lines ∧ g.par = h.par ∧ g.bch = h.bch ∧ (g.br = h.br ∨ ∃ p ∈ S.st, p.1 = i)
theorem near_step (c d : Int) (S T : GS) (k : ByteArray) (i : Nat) (h : Near S T) : (gstep c S k i = none ∧ gstep d T k i = none) ∨ ∃ S' T', gstep c S k i = some S' ∧ gstep d T k i = some T' ∧ Near S' T' := by
  obtain ⟨h1, h2, h3⟩ := h
  unfold gstep
  rw [← h1]
  by_cases ho : opens k = true
  · rw [if_pos ho, if_pos ho]
    rcases hs : S.st with _ | ⟨⟨n, b, e⟩, r⟩
    · refine .inr ⟨_, _, rfl, rfl, by simp [h2], by simp [h2], ?_⟩
      intro j g g' hg hg'
      dsimp only at hg hg' ⊢
      by_cases hj : j < S.gs.length
      · rw [List.getElem?_append_left hj] at hg
        rw [List.getElem?_append_left (by omega)] at hg'
        obtain ⟨a1, a2, a3, a4⟩ := h3 j g g' hg hg'
        refine ⟨a1, a2, a3, a4.imp id ?_⟩
        rintro ⟨p, hp, -⟩
        rw [hs] at hp; simp at hp
      · rw [List.getElem?_append_right (by omega)] at hg
        rw [List.getElem?_append_right (by omega), ← h2] at hg'
        have hj0 : j - S.gs.length = 0 := by
          have := (List.getElem?_eq_some_iff.1 hg).1
          simp at this; omega
        rw [hj0] at hg hg'
        simp at hg hg'
        subst hg hg'
        exact ⟨rfl, rfl, rfl, .inr ⟨_, by simp; rfl, by simp; omega⟩⟩
    · refine .inr ⟨_, _, rfl, rfl, by simp [h2], by simp [h2], ?_⟩
      intro j g g' hg hg'
      dsimp only at hg hg' ⊢
      by_cases hj : j < S.gs.length
      · rw [List.getElem?_append_left hj] at hg
        rw [List.getElem?_append_left (by omega)] at hg'
        obtain ⟨a1, a2, a3, a4⟩ := h3 j g g' hg hg'
        refine ⟨a1, a2, a3, a4.imp id ?_⟩
        rintro ⟨p, hp, e2⟩
        rw [hs] at hp
        exact ⟨p, List.mem_cons_of_mem _ hp, e2⟩
      · rw [List.getElem?_append_right (by omega)] at hg
        rw [List.getElem?_append_right (by omega), ← h2] at hg'
        have hj0 : j - S.gs.length = 0 := by
          have := (List.getElem?_eq_some_iff.1 hg).1
          simp at this; omega
        rw [hj0] at hg hg'
        simp at hg hg'
        subst hg hg'
        exact ⟨rfl, rfl, rfl, .inr ⟨_, List.mem_cons_self, by dsimp only; omega⟩⟩
  · rw [if_neg ho, if_neg ho]
    by_cases hc : closes k = true
    · rw [if_pos hc, if_pos hc]
      rcases hs : S.st with _ | ⟨⟨n, b, e⟩, r⟩
      · exact .inl ⟨rfl, rfl⟩
      · dsimp only
        by_cases h5 : (e && !(k.toList == sEndif)) = true
        · rw [if_pos h5, if_pos h5]; exact .inl ⟨rfl, rfl⟩
        · rw [if_neg h5, if_neg h5]
          by_cases h6 : (k.toList == sEndif) = true
          · rw [if_pos h6, if_pos h6]
            refine .inr ⟨_, _, rfl, rfl, rfl, by simp [h2], ?_⟩
            intro j g g' hg hg'
            dsimp only at hg hg' ⊢
            rw [List.getElem?_modify] at hg hg'
            obtain ⟨g0, e0, rfl⟩ := Option.map_eq_some_iff.1 hg
            obtain ⟨g1, e1, rfl⟩ := Option.map_eq_some_iff.1 hg'
            obtain ⟨a1, a2, a3, a4⟩ := h3 j g0 g1 e0 e1
            by_cases hn : n = j
            · rw [if_pos hn, if_pos hn]
              exact ⟨by rw [a1], a2, a3, .inl (by rw [a1])⟩
            · rw [if_neg hn, if_neg hn]
              refine ⟨a1, a2, a3, a4.imp id ?_⟩
              rintro ⟨p, hp, e2⟩
              rw [hs] at hp
              rcases List.mem_cons.1 hp with rfl | hp
              · exact absurd e2 hn
              · exact ⟨p, hp, e2⟩
          · rw [if_neg h6, if_neg h6]
            refine .inr ⟨_, _, rfl, rfl, rfl, by simp [h2], ?_⟩
            intro j g g' hg hg'
            dsimp only at hg hg' ⊢
            rw [List.getElem?_modify] at hg hg'
            obtain ⟨g0, e0, rfl⟩ := Option.map_eq_some_iff.1 hg
            obtain ⟨g1, e1, rfl⟩ := Option.map_eq_some_iff.1 hg'
            obtain ⟨a1, a2, a3, a4⟩ := h3 j g0 g1 e0 e1
            by_cases hn : n = j
            · rw [if_pos hn, if_pos hn]
              exact ⟨by rw [a1], a2, a3, .inr ⟨_, List.mem_cons_self, hn⟩⟩
            · rw [if_neg hn, if_neg hn]
              refine ⟨a1, a2, a3, a4.imp id ?_⟩
              rintro ⟨p, hp, e2⟩
              rw [hs] at hp
              rcases List.mem_cons.1 hp with rfl | hp
              · exact absurd e2 hn
              · exact ⟨p, List.mem_cons_of_mem _ hp, e2⟩
    · rw [if_neg hc, if_neg hc]
      exact .inr ⟨_, _, rfl, rfl, h1, h2, h3⟩
theorem near_run (c d : Int) (ks : List ByteArray) : ∀ (S T : GS) (i : Nat), Near S T → (∃ n, grun c S ks i = .inr n ∧ grun d T ks i = .inr n) ∨ ∃ S' T', grun c S ks i = .inl S' ∧ grun d T ks i = .inl T' ∧ Near S' T' := by
  induction ks with
  | nil => exact fun S T i h => .inr ⟨S, T, rfl, rfl, h⟩
  | cons k r ih =>
    intro S T i h
    unfold grun
    rcases near_step c d S T k i h with ⟨e1, e2⟩ | ⟨S', T', e1, e2, h'⟩
    · rw [e1, e2]; exact .inl ⟨i, rfl, rfl⟩
    · rw [e1, e2]; exact ih S' T' (i + 1) h'
end Lx
end Go.Proofs.YtjnafjgonoficaaGreatDoor
namespace Go.Proofs.YtjnafjgonoficaaGreatDoor
open Go.RowKit Go.Proofs.YtjnafjgonoficaaGreatDoorW.PrintWords
set_option linter.unusedVariables false
set_option linter.unusedSimpArgs false
namespace Lx
def gs0 : GS := ⟨[], []⟩
/-- How many of the kinds open a group. -/
def nOpens : List ByteArray → Nat
  | [] => 0
  | k :: r => (if opens k = true then 1 else 0) + nOpens r
theorem nOpens_le (ks : List ByteArray) : nOpens ks ≤ ks.length := by
  induction ks with
  | nil => exact Nat.le_refl _
  | cons k r ih => unfold nOpens; simp only [List.length_cons]; split <;> omega
theorem nOpens_snoc (ks : List ByteArray) (k : ByteArray) : nOpens (ks ++ [k]) = nOpens ks + (if opens k = true then 1 else 0) := by
  induction ks with
  | nil => simp [nOpens]
  | cons x r ih => simp only [List.cons_append, nOpens, ih]; omega
/-- The line in which the innermost open group begins. -/
def firstLine (S : GS) : Int := match S.st with
  | [] => 0
  | (n, _, _) :: _ => match S.gs[n]? with | some g => g.lines.headD 0 | none => 0
/-- The groups of a text's kinds; or the error, and where. -/
def groupsC (c : Int) (ks : List ByteArray) : List G × Int × Int :=
  if 200 < nOpens ks then ([], 2, 0) else
  match grun c gs0 ks 0 with
  | .inr i => ([], 30, (i : Int))
  | .inl S => if S.st.isEmpty = true then (S.gs, 0, 0) else ([], 30, firstLine S)
def groups (ks : List ByteArray) : List G × Int × Int := groupsC 0 ks
theorem gstep_len (c : Int) (S T : GS) (k : ByteArray) (i : Nat) (h : gstep c S k i = some T) : S.gs.length ≤ T.gs.length ∧ T.gs.length ≤ S.gs.length + 1 := by
  unfold gstep at h
  split at h
  · split at h <;> cases h <;> simp
  · split at h
    · split at h
      · cases h
      · split at h
        · cases h
        · split at h <;> cases h <;> simp
    · cases h; simp
theorem lines_step (c : Int) (S T : GS) (k : ByteArray) (i : Nat) (h : gstep c S k i = some T) (m : Nat) (hS : ∀ g ∈ S.gs, g.lines.length ≤ m) : ∀ g ∈ T.gs, g.lines.length ≤ m + 1 := by
  have hmod : ∀ (n : Nat) (F : G → G), (∀ g, (F g).lines.length = g.lines.length + 1) → ∀ g ∈ S.gs.modify n F, g.lines.length ≤ m + 1 := by
    intro n F hF g hg
    obtain ⟨j, hj⟩ := List.mem_iff_getElem?.1 hg
    rw [List.getElem?_modify] at hj
    obtain ⟨g0, h0, rfl⟩ := Option.map_eq_some_iff.1 hj
    have := hS g0 (List.mem_iff_getElem?.2 ⟨j, h0⟩)
    split
    · rw [hF]; omega
    · omega
  have hpush : ∀ x : G, x.lines.length = 1 → ∀ g ∈ S.gs ++ [x], g.lines.length ≤ m + 1 := by
    intro x hx g hg
    rcases List.mem_append.1 hg with hg | hg
    · have := hS g hg; omega
    · rw [List.mem_singleton.1 hg, hx]; omega
  unfold gstep at h
  split at h
  · split at h <;> cases h <;> exact hpush _ rfl
  · split at h
    · split at h
      · cases h
      · split at h
        · cases h
        · split at h <;> cases h
          · exact hmod _ _ (fun g => by simp)
          · exact hmod _ _ (fun g => by simp)
    · cases h; exact fun g hg => Nat.le_succ_of_le (hS g hg)
/-- What holds on the way: each group has a line at least; the open ones' numbers fall, from the innermost on, and their branches tell how many lines they have. -/
structure Good (S : GS) : Prop where
  ne : ∀ g ∈ S.gs, g.lines ≠ []
  lt : ∀ p ∈ S.st, p.1 < S.gs.length
  desc : S.st.Pairwise fun p q => q.1 < p.1
  len : ∀ p ∈ S.st, ∀ g, S.gs[p.1]? = some g → g.lines.length = p.2.1 + 1
theorem good0 : Good gs0 := ⟨by simp [gs0], by simp [gs0], by simp [gs0], by simp [gs0]⟩
theorem good_push (c : Int) (S : GS) (h : Good S) (g : G) (hg : g.lines.length = 1) : Good ⟨S.gs ++ [g], (S.gs.length, 0, false) :: S.st⟩ := by
  constructor
  · intro x hx
    rcases List.mem_append.1 hx with hx | hx
    · exact h.ne x hx
    · rw [List.mem_singleton.1 hx]; intro e; rw [e] at hg; simp at hg
  · intro p hp
    simp only [List.length_append, List.length_singleton]
    rcases List.mem_cons.1 hp with rfl | hp
    · exact Nat.lt_succ_self _
    · exact Nat.lt_succ_of_lt (h.lt p hp)
  · exact List.pairwise_cons.2 ⟨fun q hq => h.lt q hq, h.desc⟩
  · intro p hp x hx
    rcases List.mem_cons.1 hp with rfl | hp
    · dsimp only at hx
      rw [List.getElem?_append_right (Nat.le_refl _), Nat.sub_self] at hx
      simp at hx; subst hx; exact hg
    · dsimp only at hx
      rw [List.getElem?_append_left (h.lt p hp)] at hx
      exact h.len p hp x hx
theorem good_modify (S : GS) (h : Good S) (n b : Nat) (e : Bool) (r : List (Nat × Nat × Bool)) (hs : S.st = (n, b, e) :: r) (F : G → G) (hF : ∀ g, (F g).lines.length = g.lines.length + 1) :
    Good ⟨S.gs.modify n F, r⟩ ∧ ∀ e', Good ⟨S.gs.modify n F, (n, b + 1, e') :: r⟩ := by
  have hd := h.desc
  rw [hs] at hd
  have hd1 := (List.pairwise_cons.1 hd).1
  have hd2 := (List.pairwise_cons.1 hd).2
  have hne : ∀ g ∈ S.gs.modify n F, g.lines ≠ [] := by
    intro g hg
    obtain ⟨i, hi⟩ := List.mem_iff_getElem?.1 hg
    rw [List.getElem?_modify] at hi
    obtain ⟨g0, h0, rfl⟩ := Option.map_eq_some_iff.1 hi
    split
    · intro e; have := hF g0; rw [e] at this; simp at this
    · exact h.ne g0 (List.mem_iff_getElem?.2 ⟨i, h0⟩)
  have hlen : ∀ p ∈ r, ∀ g, (S.gs.modify n F)[p.1]? = some g → g.lines.length = p.2.1 + 1 := by
    intro p hp g hg
    have hpn := hd1 p hp
    dsimp only at hpn
    rw [List.getElem?_modify] at hg
    obtain ⟨g0, h0, rfl⟩ := Option.map_eq_some_iff.1 hg
    rw [if_neg (by omega)]
    exact h.len p (by rw [hs]; exact List.mem_cons_of_mem _ hp) _ h0
  refine ⟨⟨hne, ?_, hd2, hlen⟩, fun e' => ⟨hne, ?_, List.pairwise_cons.2 ⟨hd1, hd2⟩, ?_⟩⟩
  · intro p hp; dsimp only; rw [List.length_modify]; exact h.lt p (by rw [hs]; exact List.mem_cons_of_mem _ hp)
  · intro p hp; dsimp only; rw [List.length_modify]
    rcases List.mem_cons.1 hp with rfl | hp
    · exact h.lt (n, b, e) (by rw [hs]; exact List.mem_cons_self)
    · exact h.lt p (by rw [hs]; exact List.mem_cons_of_mem _ hp)
  · intro p hp g hg
    rcases List.mem_cons.1 hp with rfl | hp
    · dsimp only at hg ⊢
      rw [List.getElem?_modify] at hg
      obtain ⟨g0, h0, rfl⟩ := Option.map_eq_some_iff.1 hg
      rw [if_pos rfl]
      have := h.len (n, b, e) (by rw [hs]; exact List.mem_cons_self) g0 h0
      dsimp only at this
      rw [hF, this]
    · exact hlen p hp g hg
theorem good_step (c : Int) (S T : GS) (k : ByteArray) (i : Nat) (h : gstep c S k i = some T) (hS : Good S) : Good T := by
  unfold gstep at h
  split at h
  · rcases hs : S.st with _ | ⟨⟨n, b, e⟩, r⟩
    · rw [hs] at h; cases h
      have := good_push c S hS ⟨[(i : Int)], c, -1, 0⟩ rfl
      rw [hs] at this; exact this
    · rw [hs] at h; cases h
      have := good_push c S hS ⟨[(i : Int)], c, n, b⟩ rfl
      rw [hs] at this; exact this
  · split at h
    · rcases hs : S.st with _ | ⟨⟨n, b, e⟩, r⟩
      · rw [hs] at h; cases h
      · rw [hs] at h
        dsimp only at h
        split at h
        · cases h
        · split at h
          · cases h; exact (good_modify S hS n b e r hs _ (fun g => by simp)).1
          · cases h; exact (good_modify S hS n b e r hs _ (fun g => by simp)).2 _
    · cases h; exact hS
/-- How large the groups' numbers are. -/
def Sm (S : GS) (i : Nat) : Prop := S.gs.length ≤ i ∧ ∀ g ∈ S.gs, g.lines.length ≤ i ∧ ∀ x ∈ g.lines, 0 ≤ x ∧ x < (i : Int)
theorem sm0 : Sm gs0 0 := ⟨by simp [gs0], by simp [gs0]⟩
theorem sm_step (c : Int) (S T : GS) (k : ByteArray) (i : Nat) (h : gstep c S k i = some T) (hS : Sm S i) : Sm T (i + 1) := by
  refine ⟨by have := (gstep_len c S T k i h).2; have := hS.1; omega, fun g hg => ⟨lines_step c S T k i h i (fun g hg => (hS.2 g hg).1) g hg, ?_⟩⟩
  have hold : ∀ g ∈ S.gs, ∀ x ∈ g.lines, 0 ≤ x ∧ x < ((i + 1 : Nat) : Int) := fun g hg x hx => by have := (hS.2 g hg).2 x hx; omega
  have hmod : ∀ (n : Nat) (F : G → G), (∀ g, (F g).lines = g.lines ++ [(i : Int)]) → ∀ g ∈ S.gs.modify n F, ∀ x ∈ g.lines, 0 ≤ x ∧ x < ((i + 1 : Nat) : Int) := by
    intro n F hF g hg x hx
    obtain ⟨j, hj⟩ := List.mem_iff_getElem?.1 hg
    rw [List.getElem?_modify] at hj
    obtain ⟨g0, h0, rfl⟩ := Option.map_eq_some_iff.1 hj
    have hm := List.mem_iff_getElem?.2 ⟨j, h0⟩
    split at hx
    · rw [hF] at hx
      rcases List.mem_append.1 hx with hx | hx
      · exact hold g0 hm x hx
      · rw [List.mem_singleton.1 hx]; omega
    · exact hold g0 hm x hx
  have hpush : ∀ y : G, y.lines = [(i : Int)] → ∀ g ∈ S.gs ++ [y], ∀ x ∈ g.lines, 0 ≤ x ∧ x < ((i + 1 : Nat) : Int) := by
    intro y hy g hg x hx
    rcases List.mem_append.1 hg with hg | hg
    · exact hold g hg x hx
    · rw [List.mem_singleton.1 hg, hy] at hx; rw [List.mem_singleton.1 hx]; omega
  revert hg
  unfold gstep at h
  split at h
  · split at h <;> cases h <;> exact hpush _ rfl g
  · split at h
    · split at h
      · cases h
      · split at h
        · cases h
        · split at h <;> cases h
          · exact hmod _ _ (fun g => rfl) g
          · exact hmod _ _ (fun g => rfl) g
    · cases h; exact hold g
theorem sm_run (c : Int) : ∀ (ks : List ByteArray) (S T : GS) (i : Nat), grun c S ks i = .inl T → Sm S i → Sm T (i + ks.length)
  | [], S, T, i, h, hS => by unfold grun at h; cases h; exact hS
  | k :: r, S, T, i, h, hS => by
    unfold grun at h
    cases hg : gstep c S k i with
    | none => rw [hg] at h; cases h
    | some U =>
      rw [hg] at h
      have := sm_run c r U T (i + 1) h (sm_step c S U k i hg hS)
      rw [List.length_cons, show i + (r.length + 1) = i + 1 + r.length by omega]
      exact this
/-- What is asked of groups. -/
def Small (gs : List G) : Prop := gs.length ≤ 100000 ∧ ∀ g ∈ gs, g.lines.length ≤ 100000 ∧ ∀ x ∈ g.lines, 0 ≤ x ∧ x ≤ 100000
theorem groups_small (c : Int) (ks : List ByteArray) (h : ks.length ≤ 100000) : Small (groupsC c ks).1 := by
  have h0 : Small [] := ⟨by simp, by simp⟩
  unfold groupsC
  split
  · exact h0
  · cases hg : grun c gs0 ks 0 with
    | inr i => exact h0
    | inl S =>
      dsimp only
      split
      · have := sm_run c ks gs0 S 0 hg sm0
        refine ⟨by have := this.1; dsimp only; omega, fun g hg => ⟨by have := (this.2 g hg).1; omega, fun x hx => by have := (this.2 g hg).2 x hx; omega⟩⟩
      · exact h0
/-- The program's way and the reference's come to the same groups. -/
theorem near0 : Near gs0 gs0 := ⟨rfl, rfl, fun i g h a b => by simp [gs0] at a⟩
theorem groups_same (c : Int) (ks : List ByteArray) : groupsC c ks = groups ks := by
  unfold groups groupsC
  split
  · rfl
  · rcases near_run c 0 ks gs0 gs0 0 near0 with ⟨n, e1, e2⟩ | ⟨S, T, e1, e2, h1, h2, h3⟩
    · rw [e1, e2]
    · rw [e1, e2]
      dsimp only
      rw [← h1]
      split
      · rename_i hs
        have hs0 : S.st = [] := List.isEmpty_iff.1 hs
        have : S.gs = T.gs := by
          apply List.ext_getElem?
          intro i
          by_cases hi : i < S.gs.length
          · obtain ⟨a1, a2, a3, a4⟩ := h3 i _ _ (List.getElem?_eq_getElem hi) (List.getElem?_eq_getElem (by omega))
            rw [List.getElem?_eq_getElem hi, List.getElem?_eq_getElem (by omega)]
            have a5 := a4.resolve_right (by rintro ⟨p, hp, -⟩; rw [hs0] at hp; simp at hp)
            cases hg : S.gs[i]; cases hg' : T.gs[i]
            rw [hg, hg'] at a1 a2 a3 a5
            dsimp only at a1 a2 a3 a5
            rw [a1, a2, a3, a5]
          · rw [List.getElem?_eq_none (by omega), List.getElem?_eq_none (by omega)]
        rw [this]
      · have : firstLine S = firstLine T := by
          unfold firstLine
          rw [← h1]
          rcases S.st with _ | ⟨⟨n, b, e⟩, r⟩
          · rfl
          · dsimp only
            by_cases hi : n < S.gs.length
            · obtain ⟨a1, -⟩ := h3 n _ _ (List.getElem?_eq_getElem hi) (List.getElem?_eq_getElem (by omega))
              rw [List.getElem?_eq_getElem hi, List.getElem?_eq_getElem (by omega)]
              dsimp only
              rw [a1]
            · rw [List.getElem?_eq_none (by omega), List.getElem?_eq_none (by omega)]
        rw [this]
end Lx
end Go.Proofs.YtjnafjgonoficaaGreatDoor
namespace Go.Proofs.YtjnafjgonoficaaGreatDoor
open Go.RowKit Go.Proofs.YtjnafjgonoficaaGreatDoorW.PrintWords
set_option linter.unusedVariables false
set_option linter.unusedSimpArgs false
namespace Lx
/-- The number of the last one of some groups that begins at a place. -/
def opener : List G → Int → Nat → Option Nat
  | [], _, _ => none
  | g :: r, i, n => match opener r i (n + 1) with
    | some m => some m
    | none => if g.lines.headD 0 = i then some n else none
def isEnd (gs : List G) (i : Int) : Bool := gs.any fun g => g.lines.getLastD 0 == i
def isOther (gs : List G) (i : Int) : Bool := gs.any fun g => (g.lines.drop 1).contains i
theorem opener_snoc (g : G) (i : Int) : ∀ (gs : List G) (n : Nat), opener (gs ++ [g]) i n = if g.lines.headD 0 = i then some (n + gs.length) else opener gs i n
  | [], n => by simp [opener]
  | x :: r, n => by
    simp only [List.cons_append, opener, opener_snoc g i r (n + 1), List.length_cons]
    by_cases h : g.lines.headD 0 = i
    · rw [if_pos h, if_pos h]; simp; omega
    · rw [if_neg h, if_neg h]
theorem isEnd_snoc (gs : List G) (g : G) (i : Int) : isEnd (gs ++ [g]) i = (isEnd gs i || g.lines.getLastD 0 == i) := by unfold isEnd; simp
theorem isOther_snoc (gs : List G) (g : G) (i : Int) : isOther (gs ++ [g]) i = (isOther gs i || (g.lines.drop 1).contains i) := by unfold isOther; simp
/-- What one token does to the groups that are open; the second: what is said of the token. -/
def plStep (gs : List G) (now : List (Int × Int)) (i : Int) : Option (List (Int × Int) × List (Int × Int)) :=
  match opener gs i 0 with
  | some g => some (now ++ [((g : Int), 0)], now)
  | none =>
    if isEnd gs i = true then (if now.isEmpty = true then none else some (now.dropLast, now.dropLast))
    else if isOther gs i = true then
      (match now.getLast? with | none => none | some p => some (now.dropLast ++ [(p.1, p.2 + 1)], now.dropLast))
    else some (now, now)
/-- .. and so on, to a number of tokens. -/
def plRun (gs : List G) : List (Int × Int) → Nat → Nat → Option (List (List (Int × Int)))
  | _, _, 0 => some []
  | now, i, n + 1 => match plStep gs now (i : Int) with
    | none => none
    | some (now', o) => (plRun gs now' (i + 1) n).map fun r => o :: r
def places (gs : List G) (n : Nat) : Option (List (List (Int × Int))) := plRun gs [] 0 n
end Lx
end Go.Proofs.YtjnafjgonoficaaGreatDoor
namespace Go.Proofs.YtjnafjgonoficaaGreatDoor
open Go.RowKit Go.Proofs.YtjnafjgonoficaaGreatDoorW.PrintWords
set_option linter.unusedVariables false
set_option linter.unusedSimpArgs false
namespace Lx
/-- The evaluator's state: the words that are left, and whether something was not as said. -/
structure ES where
  l : List Tok
  bad : Bool
def ES.tl (S : ES) : ES := ⟨S.l.tail, S.bad⟩
def ES.fail (S : ES) : ES := ⟨S.l, true⟩
/-- Does a sign come? -/
def isS (S : ES) (g : List UInt8) : Bool := match S.l with | [] => false | t :: _ => decide (t.k = 6) && (t.t.toList == g)
/-- The operators: their signs, how strong they are. -/
def ops : List (List UInt8 × Nat) := [([124, 124], 1), ([38, 38], 2), ([61, 61], 3), ([33, 61], 3), ([60], 4), ([60, 61], 4), ([62], 4), ([62, 61], 4), ([43], 5), ([45], 5), ([42], 6), ([47], 6), ([37], 6)]
/-- The place of the first operator of a level that comes. -/
def findFrom (lv : Nat) (S : ES) : List (List UInt8 × Nat) → Nat → Option Nat
  | [], _ => none
  | o :: r, j => if (decide (o.2 = lv) && isS S o.1) = true then some j else findFrom lv S r (j + 1)
def findOp (lv : Nat) (S : ES) : Option Nat := findFrom lv S ops 0
def w64 (a : Int) : Int := wrap64 a
def bit (b : Bool) : Int := if b = true then 1 else 0
def quo (a b : Int) : Int := if b = 0 then 0 else w64 (a.tdiv b)
/-- What an operator does. -/
def opDo (j : Nat) (a b : Int) : Int := match j with
  | 0 => bit (a != 0 || b != 0)
  | 1 => bit (a != 0 && b != 0)
  | 2 => bit (a == b)
  | 3 => bit (a != b)
  | 4 => bit (decide (a < b))
  | 5 => bit (decide (a ≤ b))
  | 6 => bit (decide (b < a))
  | 7 => bit (decide (b ≤ a))
  | 8 => w64 (a + b)
  | 9 => w64 (a - b)
  | 10 => w64 (a * b)
  | 11 => quo a b
  | _ => w64 (w64 (a - w64 (quo a b * b)) - w64 (a * bit (b == 0)))
/-- The signs with one side that come, the first one first; and what is left. -/
def isSign (t : Tok) : Bool := decide (t.k = 6) && (t.t.toList == [33] || t.t.toList == [45] || t.t.toList == [43])
def signsOf (l : List Tok) : List ByteArray := (l.takeWhile isSign).map (·.t)
def afterSigns (l : List Tok) : List Tok := l.dropWhile isSign
def signed1 (g : ByteArray) (v : Int) : Int := if (g.toList == [33]) = true then bit (v == 0) else if (g.toList == [45]) = true then w64 (-v) else v
def signed (l : List ByteArray) (v : Int) : Int := l.foldr signed1 v
/-- Whether a name is defined ('defined' was read). -/
def definedE (val : ByteArray → Int × Bool) (S : ES) : Int × ES :=
  let T := if isS S [40] = true then S.tl else S
  match T.l with
  | [] => (0, T.fail)
  | t :: r => if t.k = 1 then (if (isS S [40] && !(isS ⟨r, T.bad⟩ [41])) = true then (0, ⟨r, true⟩) else (bit (val t.t).2, if isS S [40] = true then ⟨r.tail, T.bad⟩ else ⟨r, T.bad⟩)) else (0, T.fail)
mutual
def binF (num val : ByteArray → Int × Bool) : Nat → Nat → ES → Option (Int × ES)
  | 0, _, _ => none
  | m + 1, lv, S => if lv = 7 then oneF num val m S else
    match binF num val m (lv + 1) S with
    | none => none
    | some (v, T) => loopF num val m lv v T
def loopF (num val : ByteArray → Int × Bool) : Nat → Nat → Int → ES → Option (Int × ES)
  | 0, _, _, _ => none
  | m + 1, lv, v, S => if S.bad = true then some (v, S) else
    match findOp lv S with
    | none => some (v, S)
    | some j => match binF num val m (lv + 1) S.tl with
      | none => none
      | some (u, T) => loopF num val m lv (opDo j v u) T
def oneF (num val : ByteArray → Int × Bool) : Nat → ES → Option (Int × ES)
  | 0, _ => none
  | m + 1, S => match operF num val m ⟨afterSigns S.l, S.bad⟩ with
    | none => none
    | some (v, T) => some (signed (signsOf S.l) v, T)
def operF (num val : ByteArray → Int × Bool) : Nat → ES → Option (Int × ES)
  | 0, _ => none
  | m + 1, S => if S.bad = true then some (0, S.fail) else
    match S.l with
    | [] => some (0, S.fail)
    | t :: r => if isS S [40] = true then
        (match binF num val m 1 S.tl with
        | none => none
        | some (v, T) => if isS T [41] = true then some (v, T.tl) else some (0, T.fail))
      else if t.k = 3 then (if (num t.t).2 = true then some ((num t.t).1, S.tl) else some (0, S.tl.fail))
      else if (t.t.toList == [100, 101, 102, 105, 110, 101, 100]) = true then some (definedE val S.tl)
      else if t.k = 1 then some ((val t.t).1, S.tl)
      else some (0, S.tl.fail)
end
/-- What Eval says: the value, and whether the expression is as said. -/
def evalF (num val : ByteArray → Int × Bool) (m : Nat) (l : List Tok) : Option (Int × Bool) :=
  match binF num val m 1 ⟨l, false⟩ with
  | none => none
  | some (v, T) => if (T.bad || !T.l.isEmpty) = true then some (0, false) else some (v, true)
end Lx
end Go.Proofs.YtjnafjgonoficaaGreatDoor
