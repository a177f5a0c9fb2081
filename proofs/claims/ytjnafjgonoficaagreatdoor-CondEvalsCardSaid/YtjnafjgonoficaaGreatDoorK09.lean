/-
  The finder of groups in memory: what its state is, and how it is kept. Conditions: none.
  The finder's state with a group more. Conditions: none.
  What opening a group does to the finder. Conditions: the finder's blocks are its own.
  What opening a group does to the finder. Conditions: the finder's blocks are its own.
  One row of the finder's rows grows. Conditions: none.
  What one directive does to the finder: it opens a group, or is of no matter. Conditions: the finder's blocks are its own.
  What a directive that closes does to the finder where none is open. Conditions: the finder's blocks are its own.
  The finder's state after a store: a line more in a group, the top of the stack turned, a group's branches set, the stack popped. Conditions: none.
-/
import Derived.Deep.RegionHeld3
import Derived.BigRegion
import Derived.Deep.RegionLaw
import Derived.Test.YtjnafjgonoficaaGreatDoorK08
namespace Go.Proofs.YtjnafjgonoficaaGreatDoor
open Go.RowKit Go.Proofs.YtjnafjgonoficaaGreatDoorW.PrintWords
set_option linter.unusedVariables false
set_option linter.unusedSimpArgs false
/-- The open groups, innermost first: each in a block of its own, the outer ones older. -/
def Chain (w : World) (base : Nat) : Value → List (Nat × Nat × Bool) → Nat → Prop
  | p, [], _ => p = .pointer none
  | p, (n, b, e) :: r, hi => ∃ blk q, p = .pointer (some ⟨blk, 0, none⟩) ∧ base ≤ blk ∧ blk < hi ∧ w.heap[blk]? = some (.cells #[.int .i64 n, .int .i64 b, .bool e, q] 82 (0, 0)) ∧ Chain w base q r blk
def gcells (ls : List Value) (gs : List Lx.G) : List Value := (ls.zip gs).flatMap fun x => [x.1, .int .i64 x.2.br, .int .i64 x.2.par, .int .i64 x.2.bch]
/-- The rows of the groups' lines: each its own. -/
def RowsAt (w : World) (base : Nat) (ls : List Value) (gs : List Lx.G) : Prop :=
  (∀ (i : Nat) (lv : Value) (g : Lx.G), ls[i]? = some lv → gs[i]? = some g → g.lines ≠ [] ∧ w.ownsRow base 3 1 lv g.lines.length (intCells g.lines)) ∧
  ∀ (i j : Nat) (lv lv' : Value), i ≠ j → ls[i]? = some lv → ls[j]? = some lv' → lv.ownBlock ≠ lv'.ownBlock
/-- The finder. -/
def FS (w : World) (base f : Nat) (S : Lx.GS) : Prop := ∃ v p ls, w.heap[f]? = some (.cells #[v, p] 80 (0, 0)) ∧ base ≤ f ∧ ls.length = S.gs.length ∧ w.ownsRow base 41 4 v S.gs.length (gcells ls S.gs) ∧ RowsAt w base ls S.gs ∧
  Chain w base p S.st w.heap.size ∧ ∀ x ∈ S.st, x.1 < S.gs.length
theorem own_kept_ty {w w' : World} {base k : Nat} {e t : TypeId} {size n : Nat} {v : Value} {xs : List Value} {cs : Array Value} (h : w.ownsRow base e size v n xs) (hg : w.grownBy w' (some k)) (hk : w.heap[k]? = some (.cells cs t (0, 0))) (hne : e ≠ t) : w'.ownsRow base e size v n xs :=
  h.kept hg (.inr fun e1 => own_ne h hk hne e1.symm)
theorem own_kept_no {w w' : World} {base : Nat} {e : TypeId} {size n : Nat} {v : Value} {xs : List Value} (h : w.ownsRow base e size v n xs) (hg : w.grownBy w' none) : w'.ownsRow base e size v n xs := h.kept hg (Classical.em _)
theorem own_kept_row {w w' : World} {base base2 : Nat} {e t : TypeId} {size size2 n n2 : Nat} {v u : Value} {xs ys : List Value} (h : w.ownsRow base e size v n xs) (hu : w.ownsRow base2 t size2 u n2 ys) (hg : w.grownBy w' u.ownBlock) (hne : e ≠ t) : w'.ownsRow base e size v n xs := by
  rcases hu.2 with ⟨rfl, -⟩ | ⟨g, cap, cur, rfl, hb, hh, -⟩
  · exact own_kept_no h hg
  · exact own_kept_ty h hg hh hne
theorem RowsAt.no {w w' : World} {base : Nat} {ls : List Value} {gs : List Lx.G} (h : RowsAt w base ls gs) (hg : w.grownBy w' none) : RowsAt w' base ls gs :=
  ⟨fun i lv g a b => ⟨(h.1 i lv g a b).1, own_kept_no (h.1 i lv g a b).2 hg⟩, h.2⟩
theorem RowsAt.ty {w w' : World} {base k : Nat} {ls : List Value} {gs : List Lx.G} {t : TypeId} {cs : Array Value} (h : RowsAt w base ls gs) (hg : w.grownBy w' (some k)) (hk : w.heap[k]? = some (.cells cs t (0, 0))) (hne : 3 ≠ t) : RowsAt w' base ls gs :=
  ⟨fun i lv g a b => ⟨(h.1 i lv g a b).1, own_kept_ty (h.1 i lv g a b).2 hg hk hne⟩, h.2⟩
theorem RowsAt.row {w w' : World} {base base2 : Nat} {ls : List Value} {gs : List Lx.G} {t : TypeId} {size2 n2 : Nat} {u : Value} {ys : List Value} (h : RowsAt w base ls gs) (hu : w.ownsRow base2 t size2 u n2 ys) (hg : w.grownBy w' u.ownBlock) (hne : 3 ≠ t) : RowsAt w' base ls gs :=
  ⟨fun i lv g a b => ⟨(h.1 i lv g a b).1, own_kept_row (h.1 i lv g a b).2 hu hg hne⟩, h.2⟩
/-- A row more. -/
theorem RowsAt.push {w : World} {base : Nat} {ls : List Value} {gs : List Lx.G} {lv : Value} {g : Lx.G} (h : RowsAt w base ls gs) (hl : ls.length = gs.length) (hg : g.lines ≠ []) (ho : w.ownsRow base 3 1 lv g.lines.length (intCells g.lines))
    (hd : ∀ (i : Nat) (l : Value), ls[i]? = some l → l.ownBlock ≠ lv.ownBlock) : RowsAt w base (ls ++ [lv]) (gs ++ [g]) := by
  constructor
  · intro i l x h1 h2
    by_cases hi : i < ls.length
    · rw [List.getElem?_append_left hi] at h1
      rw [List.getElem?_append_left (by omega)] at h2
      exact h.1 i l x h1 h2
    · have hi2 : i = ls.length := by
        have := (List.getElem?_eq_some_iff.1 h1).1
        simp at this; omega
      subst hi2
      rw [List.getElem?_append_right (Nat.le_refl _), Nat.sub_self] at h1
      rw [hl, List.getElem?_append_right (Nat.le_refl _), Nat.sub_self] at h2
      simp at h1 h2
      subst h1 h2
      exact ⟨hg, ho⟩
  · intro i j l l' hij h1 h2
    by_cases hi : i < ls.length
    · rw [List.getElem?_append_left hi] at h1
      by_cases hj : j < ls.length
      · rw [List.getElem?_append_left hj] at h2
        exact h.2 i j l l' hij h1 h2
      · rw [List.getElem?_append_right (by omega)] at h2
        have hj0 : j - ls.length = 0 := by
          have := (List.getElem?_eq_some_iff.1 h2).1
          simp at this; omega
        rw [hj0] at h2
        simp at h2
        subst h2
        exact hd i l h1
    · rw [List.getElem?_append_right (by omega)] at h1
      have hi0 : i - ls.length = 0 := by
        have := (List.getElem?_eq_some_iff.1 h1).1
        simp at this; omega
      rw [hi0] at h1
      simp at h1
      subst h1
      by_cases hj : j < ls.length
      · rw [List.getElem?_append_left hj] at h2
        exact (hd j l' h2).symm
      · have := (List.getElem?_eq_some_iff.1 h2).1
        simp at this; omega
theorem gcells_push (ls : List Value) (gs : List Lx.G) (lv : Value) (g : Lx.G) (h : ls.length = gs.length) : gcells (ls ++ [lv]) (gs ++ [g]) = gcells ls gs ++ [lv, .int .i64 g.br, .int .i64 g.par, .int .i64 g.bch] := by
  unfold gcells
  rw [List.zip_append h, List.flatMap_append]
  rfl
/-- The chain is kept where no open group's block is turned. -/
theorem Chain.kept {w w' : World} {base : Nat} {row : Option Nat} (hg : w.grownBy w' row) : ∀ (st : List (Nat × Nat × Bool)) (p : Value) (hi hi' : Nat), Chain w base p st hi → hi ≤ hi' → (∀ k cs, row = some k → k < hi → w.heap[k]? ≠ some (.cells cs 82 (0, 0))) → Chain w' base p st hi'
  | [], p, hi, hi', h, _, _ => h
  | (n, b, e) :: r, p, hi, hi', h, hh, hn => by
    obtain ⟨blk, q, e1, e2, e3, e4, e5⟩ := h
    refine ⟨blk, q, e1, e2, by omega, (hg.block blk (blk_lt e4) (fun e => hn blk _ e.symm e3 e4)).trans e4, ?_⟩
    exact Chain.kept hg r q blk blk e5 (Nat.le_refl _) (fun k cs hk hlt => hn k cs hk (by omega))
end Go.Proofs.YtjnafjgonoficaaGreatDoor
namespace Go.Proofs.YtjnafjgonoficaaGreatDoor
open Go.RowKit Go.Proofs.YtjnafjgonoficaaGreatDoorW.PrintWords
set_option linter.unusedVariables false
set_option linter.unusedSimpArgs false
theorem fs_push {w2 w1 : World} {base f i N R0 WS gg cap c : Nat} {A : Option Addr} {par bch : Int} {now : Value} {ls : List Value} {gs : List Lx.G} {st : List (Nat × Nat × Bool)}
    (hll : ls.length = N) (hN : gs.length = N) (hbf : base ≤ f) (hb0 : base ≤ R0) (hbW : base ≤ WS) (hnew : ∀ (i : Nat) (l : Value), ls[i]? = some l → l.ownBlock ≠ some R0)
    (HF2 : w2.heap[f]? = some (.cells #[.slice A N c, .pointer (some ⟨WS, 0, none⟩)] 80 (0, 0))) (HR : w2.heap[R0]? = some (.cells #[.int .i64 i] 3 (0, 0)))
    (HO : w2.heap[WS]? = some (.cells #[.int .i64 N, .int .i64 0, .bool false, now] 82 (0, 0))) (HROWS : RowsAt w2 base ls gs) (HCH : Chain w2 base now st WS) (hlt : ∀ x ∈ st, x.1 < N)
    (HOWN2 : w2.ownsRow base 41 4 (.slice A N c) N (gcells ls gs)) (hg : w2.grownBy w1 (Value.ownBlock (.slice A N c)))
    (hown1 : w1.ownsRow base 41 4 (.slice (some ⟨gg, 0, none⟩) (N + 1) cap) (N + 1) (gcells ls gs ++ [.slice (some ⟨R0, 0, none⟩) 1 1, .int .i64 0, .int .i64 par, .int .i64 bch])) :
    FS (w1.setCell ⟨f, 0, none⟩ (.slice (some ⟨gg, 0, none⟩) (N + 1) cap)) base f ⟨gs ++ [⟨[(i : Int)], 0, par, bch⟩], (N, 0, false) :: st⟩ := by
  have hf1 := (hg.block f (blk_lt HF2) (own_ne HOWN2 HF2 (by decide))).trans HF2
  have hr1 := (hg.block R0 (blk_lt HR) (own_ne HOWN2 HR (by decide))).trans HR
  have ho1 := (hg.block WS (blk_lt HO) (own_ne HOWN2 HO (by decide))).trans HO
  have hset : w1.grownBy (w1.setCell ⟨f, 0, none⟩ (.slice (some ⟨gg, 0, none⟩) (N + 1) cap)) (some f) := grown_set (World.grownBy.refl _ _) _ _
  have hne1 : R0 ≠ f := fun e => by rw [e, HF2] at HR; simp at HR
  have hne2 : WS ≠ f := fun e => by rw [e, HF2] at HO; simp at HO
  have hrow1 := HROWS.row HOWN2 hg (by decide)
  have hrow2 := hrow1.ty hset hf1 (by decide)
  refine ⟨_, _, ls ++ [.slice (some ⟨R0, 0, none⟩) 1 1], blk_set hf1 0 _, hbf, ?_, ?_, ?_, ?_, ?_⟩
  · simp only [List.length_append, List.length_singleton]; omega
  · have := own_kept_ty hown1 hset hf1 (by decide)
    rw [gcells_push ls gs _ _ (by omega)]
    simp only [List.length_append, List.length_singleton, hN]
    exact this
  · refine hrow2.push (by omega) (by simp) ?_ hnew
    have hb := (hset.block R0 (blk_lt hr1) (by simpa using hne1)).trans hr1
    exact ⟨rfl, .inr ⟨R0, 1, _, rfl, hb0, hb, by simp, by unfold maxLen; omega, rfl, rfl⟩⟩
  · refine ⟨WS, now, rfl, hbW, ?_, (hset.block WS (blk_lt ho1) (by simpa using hne2)).trans ho1, ?_⟩
    · have := blk_lt ho1; have := hset.size; omega
    · have h1 := Chain.kept hg st now WS WS HCH (Nat.le_refl _) (fun k cs hk hl e => own_ne HOWN2 e (by decide) hk.symm)
      exact Chain.kept hset st now WS WS h1 (Nat.le_refl _) (fun k cs hk hl e => by
        have := Option.some.inj hk
        subst this
        rw [hf1] at e
        simp at e)
  · intro x hx
    simp only [List.length_append, List.length_singleton, hN]
    rcases List.mem_cons.1 hx with rfl | hx
    · exact Nat.lt_succ_self _
    · exact Nat.lt_succ_of_lt (hlt x hx)
end Go.Proofs.YtjnafjgonoficaaGreatDoor
namespace Go.Proofs.YtjnafjgonoficaaGreatDoor
open Go.RowKit Go.Proofs.YtjnafjgonoficaaGreatDoorW.PrintWords
set_option linter.unusedVariables false
set_option linter.unusedSimpArgs false
theorem info41 : (Tryz.prog.info? 41).map (fun i => (i.zero, i.size, i.bytes)) = some (some (.agg #[.slice none 0 0, .int .i64 0, .int .i64 0, .int .i64 0]), 4, 48) := by kernel_rfl
set_option maxRecDepth 100000 in
set_option maxHeartbeats 4000000 in
theorem begin_nil (w : World) (base f i : Nat) (S : Lx.GS) (h : FS w base f S) (hs : S.st = []) (hN : S.gs.length ≤ 100000) :
    Calls Tryz.prog 65 #[.pointer (some ⟨f, 0, none⟩), .int .i64 i] w fun e w' => e = .returned (.tuple #[]) ∧ FS w' base f ⟨S.gs ++ [⟨[(i : Int)], 0, -1, 0⟩], [(S.gs.length, 0, false)]⟩ ∧ Below base w w' := by
  obtain ⟨v, p, ls, hf, hbf, hll, hown, hrows, hch, hlt⟩ := h
  obtain ⟨A, c, rfl⟩ := own_slice hown
  obtain ⟨N, hN0⟩ : ∃ N, S.gs.length = N := ⟨_, rfl⟩
  rw [hN0] at hf hown hll hlt hN ⊢
  rw [hs] at hch
  obtain rfl : p = .pointer none := hch
  have c0 : w.cell? ⟨f, 0, none⟩ = some (.slice A N c) := by rw [blk_cell hf]; rfl
  have c1 : w.cell? ⟨f, 1, none⟩ = some (.pointer none) := by rw [blk_cell hf]; rfl
  have hfl := blk_lt hf
  have hfr1 := blk_frozen hf 1
  have hfr0 := blk_frozen hf 0
  have HF0 := Aside0.mk hf
  have HOWN0 := Aside0.mk hown
  have HROWS := Aside0.mk hrows
  have HN0 := Aside0.mk hN0
  clear hs hf hown hrows hlt hN0
  go_enter Tryz.func65, Tryz.ntmps65
  go_wp2_with fail
  refine wp_gen (fun W => W.heap[w.heap.size]? = some (.cells #[.int .i64 i] 3 (0, 0)) ∧ W.heap[w.heap.size + 1]? = some (.cells #[.slice (some ⟨w.heap.size, 0, none⟩) 1 1, .int .i64 0, .int .i64 (-1), .int .i64 0] 41 (0, 0)) ∧ w.grownBy W none) ⟨?_, ?_, ?_⟩ ?_
  · exact blk_alloc (blk_new_at _ _ _ rfl) _
  · exact blk_new_at _ _ _ (by simp)
  · exact grown_trans (World.grownBy_alloc _ _ none) (World.grownBy_alloc _ _ none)
  rintro W ⟨hr1, hg1, hgr⟩
  have HGR := Aside0.mk hgr
  have hsz := hgr.size
  have hlt1 := blk_lt hg1
  have hf1 := (hgr.block f hfl (by simp)).trans HF0.out
  have HF := Aside0.mk hf1
  have HG := Aside0.mk hg1
  have HR1 := Aside0.mk hr1
  have HOWN := Aside0.mk (own_kept_no HOWN0.out hgr)
  have d0 : W.cell? ⟨f, 0, none⟩ = some (.slice A N c) := by rw [blk_cell hf1]; rfl
  have d1 : W.cell? ⟨f, 1, none⟩ = some (.pointer none) := by rw [blk_cell hf1]; rfl
  have e0 := blk_frozen hf1 0
  have e1 := blk_frozen hf1 1
  have hfW := blk_lt hf1
  have hnf : f ≠ W.heap.size := by omega
  clear c0 c1 hfr0 hfr1 hf1 hg1 hgr hr1
  go_region
  go_wp2_with fail
  refine wp_gen (fun W2 => W2.heap[f]? = some (.cells #[.slice A N c, .pointer (some ⟨W.heap.size, 0, none⟩)] 80 (0, 0)) ∧ W2.heap[w.heap.size + 1]? = some (.cells #[.slice (some ⟨w.heap.size, 0, none⟩) 1 1, .int .i64 0, .int .i64 (-1), .int .i64 (0)] 41 (0, 0)) ∧
    W2.heap[W.heap.size]? = some (.cells #[.int .i64 N, .int .i64 0, .bool false, .pointer none] 82 (0, 0)) ∧ W.grownBy W2 (some f)) ⟨?_, ?_, ?_, ?_⟩ ?_
  · exact blk_alloc (blk_set HF.out 1 _) _
  · exact blk_alloc (blk_far HG.out (by simp; omega) _) _
  · exact blk_new_at _ _ _ (by simp)
  · exact grown_drew (grown_trans (grown_set (World.grownBy.refl _ _) _ _) (World.grownBy_alloc _ _ _))
  rintro W2 ⟨hf2, hg2, ho2, hgr2⟩
  obtain ⟨i0, hi0, hz0, hz1, hz2⟩ := info_parts info41
  have f0 : W2.cell? ⟨f, 0, none⟩ = some (.slice A N c) := by rw [blk_cell hf2]; rfl
  have p0 := blk_frozen hf2 0
  have g0 : W2.cell? ⟨w.heap.size + 1, 0, none⟩ = some (.slice (some ⟨w.heap.size, 0, none⟩) 1 1) := by rw [blk_cell hg2]; rfl
  have g1 : W2.cell? ⟨w.heap.size + 1, 1, none⟩ = some (.int .i64 0) := by rw [blk_cell hg2]; rfl
  have g2 : W2.cell? ⟨w.heap.size + 1, 2, none⟩ = some (.int .i64 (-1)) := by rw [blk_cell hg2]; rfl
  have g3 : W2.cell? ⟨w.heap.size + 1, 3, none⟩ = some (.int .i64 (0)) := by rw [blk_cell hg2]; rfl
  have hfW2 := blk_lt hf2
  have hnf2 : f ≠ W2.heap.size := by omega
  have hownW2 := own_kept_ty HOWN.out hgr2 HF.out (by decide)
  have hnv := own_ne hownW2 hf2 (by decide)
  have HF2 := Aside0.mk hf2
  have HO2 := Aside0.mk ho2
  have HGR2 := Aside0.mk hgr2
  have HOWN2 := Aside0.mk hownW2
  have hsz2 := hgr2.size
  clear d0 d1 e0 e1 hf2 hg2 ho2 hgr2 hownW2
  go_wp2_with fail
  go_region_law ((refine step_append_lies _ (by rfl) _ _ _ (by rfl) base 41 i0 _ 4 48 Tryz.underlying32 hi0 hz0 hz1 hz2 rfl (by omega) (.slice A N c) N (gcells ls S.gs) (by rfl) (by first | exact (HOWN2.out.alloc _).kept (grown_drew (World.grownBy.refl _ none)) (Classical.em _) | exact HOWN2.out.alloc _)
                          ⟨W2.heap.size, 0, none⟩ 1 1 [.slice (some ⟨w.heap.size, 0, none⟩) 1 1, .int .i64 0, .int .i64 (-1), .int .i64 (0)] (by rfl) (by rfl) (World.news_of_block (cs := #[.slice (some ⟨w.heap.size, 0, none⟩) 1 1, .int .i64 0, .int .i64 (-1), .int .i64 (0)]) (t := 41) (fr := (0, 0)) (heap_alloc_new W2 _)) (by simp [Value.oneCell'])
                          (by omega) (by unfold maxLen; omega) (by omega) (by simp; omega) (W2.heap.size + 1) (by simp) ?_; intro gg cap w1 hown1 hgrow hat hlt1; have hbw1 := (hgrow.block f (by simp; omega) hnv).trans (blk_alloc HF2.out _); have q0 := blk_frozen hbw1 0; have q1 : w1.cell? ⟨f, 0, none⟩ = some (.slice A N c) := (by rw [blk_cell hbw1]; rfl); have HBW1 := Aside0.mk hbw1; have HOWN1 := Aside0.mk hown1; have HGROW := Aside0.mk hgrow; clear hbw1 hown1 hgrow hat))
  all_goals go_wp2_with fail
  all_goals go_end0
  all_goals
    have hrr := (HGR2.out.block w.heap.size (by omega) (fun e => by have := Option.some.inj e; omega)).trans HR1.out
    have hg12 := grown_trans (grown_drew (World.grownBy_alloc W2 _ _)) HGROW.out
    have hb1 : Below base w W := (Below.refl _ _).grown HGR.out (by omega) (fun k hk => by cases hk)
    have hb2 := hb1.grown HGR2.out (by omega) (fun k hk => by cases hk; exact hbf)
    have hb3 := hb2.grown hg12 (by omega) (fun k hk => own_base HOWN2.out k hk)
    refine ⟨rfl, ?_, Below.setCell (p := ⟨f, 0, none⟩) hb3 hbf _⟩
    exact fs_push hll HN0.out hbf (by omega) (by omega) (fun j l hj e => by
      have hj2 : j < S.gs.length := by rw [HN0.out, ← hll]; exact (List.getElem?_eq_some_iff.1 hj).1
      have := own_lt (HROWS.out.1 j l _ hj (List.getElem?_eq_getElem hj2)).2 _ e
      omega) HF2.out hrr HO2.out ((HROWS.out.no HGR.out).ty HGR2.out HF.out (by decide)) rfl (fun x hx => by simp at hx) HOWN2.out hg12 HOWN1.out
end Go.Proofs.YtjnafjgonoficaaGreatDoor
namespace Go.Proofs.YtjnafjgonoficaaGreatDoor
open Go.RowKit Go.Proofs.YtjnafjgonoficaaGreatDoorW.PrintWords
set_option linter.unusedVariables false
set_option linter.unusedSimpArgs false
theorem grown_set_new {w w' : World} {row : Option Nat} {b : Nat} (h : w.grownBy w' row) (hb : w.heap.size ≤ b) (i : Nat) (v : Value) : w.grownBy (w'.setCell ⟨b, i, none⟩ v) row :=
  ⟨h.os, h.tape, h.output, by simpa [World.setCell] using h.size, fun k hk hne => (Below.heap_setCell _ _ _ _ (by simp; omega)).trans (h.block k hk hne)⟩
set_option maxRecDepth 100000 in
set_option maxHeartbeats 4000000 in
theorem begin_cons (w : World) (base f i : Nat) (S : Lx.GS) (h : FS w base f S) (n b : Nat) (el : Bool) (r : List (Nat × Nat × Bool)) (hs : S.st = (n, b, el) :: r) (hN : S.gs.length ≤ 100000) :
    Calls Tryz.prog 65 #[.pointer (some ⟨f, 0, none⟩), .int .i64 i] w fun e w' => e = .returned (.tuple #[]) ∧ FS w' base f ⟨S.gs ++ [⟨[(i : Int)], 0, n, b⟩], (S.gs.length, 0, false) :: (n, b, el) :: r⟩ ∧ Below base w w' := by
  obtain ⟨v, p, ls, hf, hbf, hll, hown, hrows, hch, hlt⟩ := h
  obtain ⟨A, c, rfl⟩ := own_slice hown
  obtain ⟨N, hN0⟩ : ∃ N, S.gs.length = N := ⟨_, rfl⟩
  rw [hN0] at hf hown hll hlt hN ⊢
  rw [hs] at hch
  obtain ⟨blk, q, rfl, hbk, hbl, hblk, hch2⟩ := hch
  have hch0 : Chain w base (.pointer (some ⟨blk, 0, none⟩)) ((n, b, el) :: r) w.heap.size := ⟨blk, q, rfl, hbk, hbl, hblk, hch2⟩
  have HCH := Aside0.mk hch0
  rw [hs] at hlt
  have HLT := Aside0.mk hlt
  have c0 : w.cell? ⟨f, 0, none⟩ = some (.slice A N c) := by rw [blk_cell hf]; rfl
  have c1 : w.cell? ⟨f, 1, none⟩ = some (.pointer (some ⟨blk, 0, none⟩)) := by rw [blk_cell hf]; rfl
  have hfl := blk_lt hf
  have HBLK := Aside0.mk hblk
  have HF0 := Aside0.mk hf
  have HOWN0 := Aside0.mk hown
  have HROWS := Aside0.mk hrows
  have HN0 := Aside0.mk hN0
  clear hs hf hown hrows hlt hN0 hch0 hch2 hblk
  go_enter Tryz.func65, Tryz.ntmps65
  go_wp2_with fail
  refine wp_gen (fun W => W.heap[w.heap.size]? = some (.cells #[.int .i64 i] 3 (0, 0)) ∧ W.heap[w.heap.size + 1]? = some (.cells #[.slice (some ⟨w.heap.size, 0, none⟩) 1 1, .int .i64 0, .int .i64 (-1), .int .i64 0] 41 (0, 0)) ∧ w.grownBy W none ∧ W.heap.size = w.heap.size + 2) ⟨?_, ?_, ?_, ?_⟩ ?_
  · exact blk_alloc (blk_new_at _ _ _ rfl) _
  · exact blk_new_at _ _ _ (by simp)
  · exact grown_trans (World.grownBy_alloc _ _ none) (World.grownBy_alloc _ _ none)
  · simp
  rintro W0 ⟨hr0, hg0, hgr0, hsz0⟩
  have hf0 := (hgr0.block f hfl (by simp)).trans HF0.out
  have hk0 := (hgr0.block blk hbl (by simp)).trans HBLK.out
  have k0 : W0.cell? ⟨blk, 0, none⟩ = some (.int .i64 n) := by rw [blk_cell hk0]; rfl
  have k1 : W0.cell? ⟨blk, 1, none⟩ = some (.int .i64 b) := by rw [blk_cell hk0]; rfl
  have d1 : W0.cell? ⟨f, 1, none⟩ = some (.pointer (some ⟨blk, 0, none⟩)) := by rw [blk_cell hf0]; rfl
  have t2 : W0.cell? ⟨w.heap.size + 1, 2, none⟩ = some (.int .i64 (-1)) := by rw [blk_cell hg0]; rfl
  have t3 : W0.cell? ⟨w.heap.size + 1, 3, none⟩ = some (.int .i64 0) := by rw [blk_cell hg0]; rfl
  have z2 := blk_frozen hg0 2
  have z3 := blk_frozen hg0 3
  have HR0 := Aside0.mk hr0
  have HG0 := Aside0.mk hg0
  have HGR0 := Aside0.mk hgr0
  have x1 : blk ≠ w.heap.size + 1 := by omega
  have x2 : f ≠ w.heap.size + 1 := by omega
  clear c0 c1 hr0 hg0 hgr0 hf0 hk0
  go_region
  go_wp2_with fail
  refine wp_gen (fun W => W.heap[w.heap.size]? = some (.cells #[.int .i64 i] 3 (0, 0)) ∧ W.heap[w.heap.size + 1]? = some (.cells #[.slice (some ⟨w.heap.size, 0, none⟩) 1 1, .int .i64 0, .int .i64 n, .int .i64 b] 41 (0, 0)) ∧ w.grownBy W none) ⟨?_, ?_, ?_⟩ ?_
  · exact blk_far (blk_far HR0.out (by simp) _) (by simp) _
  · exact blk_set (blk_set HG0.out 2 _) 3 _
  · exact grown_drew (grown_set_new (grown_set_new HGR0.out (by omega) _ _) (by omega) _ _)
  clear k0 k1 d1 t2 t3 z2 z3 x1 x2 hsz0
  rintro W ⟨hr1, hg1, hgr⟩
  have HGR := Aside0.mk hgr
  have hsz := hgr.size
  have hlt1 := blk_lt hg1
  have hf1 := (hgr.block f hfl (by simp)).trans HF0.out
  have HF := Aside0.mk hf1
  have HG := Aside0.mk hg1
  have HR1 := Aside0.mk hr1
  have HOWN := Aside0.mk (own_kept_no HOWN0.out hgr)
  have HCH1 := Aside0.mk (Chain.kept hgr _ _ _ W.heap.size HCH.out hsz (fun k cs hk => by cases hk))
  have d0 : W.cell? ⟨f, 0, none⟩ = some (.slice A N c) := by rw [blk_cell hf1]; rfl
  have d1 : W.cell? ⟨f, 1, none⟩ = some (.pointer (some ⟨blk, 0, none⟩)) := by rw [blk_cell hf1]; rfl
  have e0 := blk_frozen hf1 0
  have e1 := blk_frozen hf1 1
  have hfW := blk_lt hf1
  have hnf : f ≠ W.heap.size := by omega
  clear hf1 hg1 hgr hr1
  go_region
  go_wp2_with fail
  refine wp_gen (fun W2 => W2.heap[f]? = some (.cells #[.slice A N c, .pointer (some ⟨W.heap.size, 0, none⟩)] 80 (0, 0)) ∧ W2.heap[w.heap.size + 1]? = some (.cells #[.slice (some ⟨w.heap.size, 0, none⟩) 1 1, .int .i64 0, .int .i64 (n), .int .i64 (b)] 41 (0, 0)) ∧
    W2.heap[W.heap.size]? = some (.cells #[.int .i64 N, .int .i64 0, .bool false, .pointer (some ⟨blk, 0, none⟩)] 82 (0, 0)) ∧ W.grownBy W2 (some f)) ⟨?_, ?_, ?_, ?_⟩ ?_
  · exact blk_alloc (blk_set HF.out 1 _) _
  · exact blk_alloc (blk_far HG.out (by simp; omega) _) _
  · exact blk_new_at _ _ _ (by simp)
  · exact grown_drew (grown_trans (grown_set (World.grownBy.refl _ _) _ _) (World.grownBy_alloc _ _ _))
  rintro W2 ⟨hf2, hg2, ho2, hgr2⟩
  obtain ⟨i0, hi0, hz0, hz1, hz2⟩ := info_parts info41
  have f0 : W2.cell? ⟨f, 0, none⟩ = some (.slice A N c) := by rw [blk_cell hf2]; rfl
  have p0 := blk_frozen hf2 0
  have g0 : W2.cell? ⟨w.heap.size + 1, 0, none⟩ = some (.slice (some ⟨w.heap.size, 0, none⟩) 1 1) := by rw [blk_cell hg2]; rfl
  have g1 : W2.cell? ⟨w.heap.size + 1, 1, none⟩ = some (.int .i64 0) := by rw [blk_cell hg2]; rfl
  have g2 : W2.cell? ⟨w.heap.size + 1, 2, none⟩ = some (.int .i64 (n)) := by rw [blk_cell hg2]; rfl
  have g3 : W2.cell? ⟨w.heap.size + 1, 3, none⟩ = some (.int .i64 (b)) := by rw [blk_cell hg2]; rfl
  have hfW2 := blk_lt hf2
  have hnf2 : f ≠ W2.heap.size := by omega
  have hownW2 := own_kept_ty HOWN.out hgr2 HF.out (by decide)
  have hnv := own_ne hownW2 hf2 (by decide)
  have HF2 := Aside0.mk hf2
  have HO2 := Aside0.mk ho2
  have HGR2 := Aside0.mk hgr2
  have HOWN2 := Aside0.mk hownW2
  have hsz2 := hgr2.size
  clear d0 d1 e0 e1 hf2 hg2 ho2 hgr2 hownW2
  go_wp2_with fail
  go_region_law ((refine step_append_lies _ (by rfl) _ _ _ (by rfl) base 41 i0 _ 4 48 Tryz.underlying32 hi0 hz0 hz1 hz2 rfl (by omega) (.slice A N c) N (gcells ls S.gs) (by rfl) (by first | exact (HOWN2.out.alloc _).kept (grown_drew (World.grownBy.refl _ none)) (Classical.em _) | exact HOWN2.out.alloc _)
                          ⟨W2.heap.size, 0, none⟩ 1 1 [.slice (some ⟨w.heap.size, 0, none⟩) 1 1, .int .i64 0, .int .i64 (n), .int .i64 (b)] (by rfl) (by rfl) (World.news_of_block (cs := #[.slice (some ⟨w.heap.size, 0, none⟩) 1 1, .int .i64 0, .int .i64 (n), .int .i64 (b)]) (t := 41) (fr := (0, 0)) (heap_alloc_new W2 _)) (by simp [Value.oneCell'])
                          (by omega) (by unfold maxLen; omega) (by omega) (by simp; omega) (W2.heap.size + 1) (by simp) ?_; intro gg cap w1 hown1 hgrow hat hlt1; have hbw1 := (hgrow.block f (by simp; omega) hnv).trans (blk_alloc HF2.out _); have q0 := blk_frozen hbw1 0; have q1 : w1.cell? ⟨f, 0, none⟩ = some (.slice A N c) := (by rw [blk_cell hbw1]; rfl); have HBW1 := Aside0.mk hbw1; have HOWN1 := Aside0.mk hown1; have HGROW := Aside0.mk hgrow; clear hbw1 hown1 hgrow hat))
  all_goals go_wp2_with fail
  all_goals go_end0
  all_goals
    have hrr := (HGR2.out.block w.heap.size (by omega) (fun e => by have := Option.some.inj e; omega)).trans HR1.out
    have hg12 := grown_trans (grown_drew (World.grownBy_alloc W2 _ _)) HGROW.out
    have hb1 : Below base w W := (Below.refl _ _).grown HGR.out (by omega) (fun k hk => by cases hk)
    have hb2 := hb1.grown HGR2.out (by omega) (fun k hk => by cases hk; exact hbf)
    have hb3 := hb2.grown hg12 (by omega) (fun k hk => own_base HOWN2.out k hk)
    refine ⟨rfl, ?_, Below.setCell (p := ⟨f, 0, none⟩) hb3 hbf _⟩
    exact fs_push hll HN0.out hbf (by omega) (by omega) (fun j l hj e => by
      have hj2 : j < S.gs.length := by rw [HN0.out, ← hll]; exact (List.getElem?_eq_some_iff.1 hj).1
      have := own_lt (HROWS.out.1 j l _ hj (List.getElem?_eq_getElem hj2)).2 _ e
      omega) HF2.out hrr HO2.out ((HROWS.out.no HGR.out).ty HGR2.out HF.out (by decide)) (Chain.kept HGR2.out _ _ _ W.heap.size HCH1.out (Nat.le_refl _) (fun k cs hk hl e => by have := Option.some.inj hk; subst this; rw [HF.out] at e; simp at e)) HLT.out HOWN2.out hg12 HOWN1.out
end Go.Proofs.YtjnafjgonoficaaGreatDoor
namespace Go.Proofs.YtjnafjgonoficaaGreatDoor
open Go.RowKit Go.Proofs.YtjnafjgonoficaaGreatDoorW.PrintWords
set_option linter.unusedVariables false
set_option linter.unusedSimpArgs false
theorem RowsAt.grow {w w' : World} {base m : Nat} {ls : List Value} {gs : List Lx.G} {lv lv' : Value} {g g' : Lx.G} (h : RowsAt w base ls gs) (hll : ls.length = gs.length) (hm : ls[m]? = some lv) (hg : gs[m]? = some g) (hw : w.grownBy w' lv.ownBlock)
    (hg' : g'.lines ≠ []) (ho : w'.ownsRow base 3 1 lv' g'.lines.length (intCells g'.lines)) (hat : lv'.ownBlock = lv.ownBlock ∨ ∃ b, lv'.ownBlock = some b ∧ w.heap.size ≤ b) : RowsAt w' base (ls.set m lv') (gs.set m g') := by
  have hml : m < ls.length := (List.getElem?_eq_some_iff.1 hm).1
  have hold : ∀ (i : Nat) (l : Value) (x : Lx.G), ls[i]? = some l → gs[i]? = some x → i ≠ m → w'.ownsRow base 3 1 l x.lines.length (intCells x.lines) := fun i l x h1 h2 hi =>
    (h.1 i l x h1 h2).2.kept hw (.inr (h.2 i m l lv hi h1 hm))
  have hne : ∀ (i : Nat) (l : Value), ls[i]? = some l → i ≠ m → l.ownBlock ≠ lv'.ownBlock := fun i l h1 hi e => by
    have hil : i < gs.length := by rw [← hll]; exact (List.getElem?_eq_some_iff.1 h1).1
    rcases hat with e2 | ⟨b, e2, hb⟩
    · exact h.2 i m l lv hi h1 hm (e.trans e2)
    · have := own_lt (h.1 i l _ h1 (List.getElem?_eq_getElem hil)).2 b (e.trans e2)
      omega
  constructor
  · intro i l x h1 h2
    by_cases hi : i = m
    · subst hi
      rw [List.getElem?_set_self (by omega)] at h1
      rw [List.getElem?_set_self (by omega)] at h2
      cases h1
      cases h2
      exact ⟨hg', ho⟩
    · rw [List.getElem?_set_ne (fun e => hi e.symm)] at h1 h2
      exact ⟨(h.1 i l x h1 h2).1, hold i l x h1 h2 hi⟩
  · intro i j l l' hij h1 h2
    by_cases hi : i = m
    · subst hi
      rw [List.getElem?_set_self (by omega)] at h1
      cases h1
      rw [List.getElem?_set_ne hij] at h2
      exact (hne j l' h2 (fun e => hij e.symm)).symm
    · rw [List.getElem?_set_ne (fun e => hi e.symm)] at h1
      by_cases hj : j = m
      · subst hj
        rw [List.getElem?_set_self (by omega)] at h2
        cases h2
        exact hne i l h1 hi
      · rw [List.getElem?_set_ne (fun e => hj e.symm)] at h2
        exact h.2 i j l l' hij h1 h2
theorem gcells_cons (l : Value) (ls : List Value) (g : Lx.G) (gs : List Lx.G) : gcells (l :: ls) (g :: gs) = l :: .int .i64 g.br :: .int .i64 g.par :: .int .i64 g.bch :: gcells ls gs := rfl
/-- One group's lines are other ones. -/
theorem gcells_lines (lv' : Value) (h : Lx.G → Lx.G) (hb : ∀ g, (h g).br = g.br ∧ (h g).par = g.par ∧ (h g).bch = g.bch) : ∀ (ls : List Value) (gs : List Lx.G) (m : Nat), ls.length = gs.length → m < ls.length → gcells (ls.set m lv') (gs.modify m h) = (gcells ls gs).set (m * 4) lv'
  | [], gs, m, _, hm => by simp at hm
  | l :: ls, [], m, hl, _ => by simp at hl
  | l :: ls, g :: gs, 0, _, _ => by
    rw [List.set_cons_zero, List.modify_zero_cons, gcells_cons, gcells_cons, (hb g).1, (hb g).2.1, (hb g).2.2]
    rfl
  | l :: ls, g :: gs, m + 1, hl, hm => by
    rw [List.set_cons_succ, List.modify_succ_cons, gcells_cons, gcells_cons, gcells_lines lv' h hb ls gs m (by simpa using hl) (by simpa using hm), show (m + 1) * 4 = m * 4 + 1 + 1 + 1 + 1 from by omega]
    rfl
/-- One group's number of branches is another one. -/
theorem gcells_br (x : Int) (h : Lx.G → Lx.G) (hb : ∀ g, (h g).par = g.par ∧ (h g).bch = g.bch) (hx : ∀ g, (h g).br = x) : ∀ (ls : List Value) (gs : List Lx.G) (m : Nat), ls.length = gs.length → m < ls.length → gcells ls (gs.modify m h) = (gcells ls gs).set (m * 4 + 1) (.int .i64 x)
  | [], gs, m, _, hm => by simp at hm
  | l :: ls, [], m, hl, _ => by simp at hl
  | l :: ls, g :: gs, 0, _, _ => by
    rw [List.modify_zero_cons, gcells_cons, gcells_cons, hx g, (hb g).1, (hb g).2]
    rfl
  | l :: ls, g :: gs, m + 1, hl, hm => by
    rw [List.modify_succ_cons, gcells_cons, gcells_cons, gcells_br x h hb hx ls gs m (by simpa using hl) (by simpa using hm), show (m + 1) * 4 + 1 = (m * 4 + 1) + 1 + 1 + 1 + 1 from by omega]
    rfl
theorem gcells_at : ∀ (ls : List Value) (gs : List Lx.G) (m : Nat) (l : Value) (g : Lx.G), ls[m]? = some l → gs[m]? = some g → (gcells ls gs)[m * 4]? = some l ∧ (gcells ls gs)[m * 4 + 1]? = some (.int .i64 g.br)
  | [], gs, m, l, g, h, _ => by simp at h
  | a :: ls, [], m, l, g, _, h => by simp at h
  | a :: ls, b :: gs, 0, l, g, h1, h2 => by
    simp at h1 h2
    subst h1 h2
    exact ⟨rfl, rfl⟩
  | a :: ls, b :: gs, m + 1, l, g, h1, h2 => by
    have := gcells_at ls gs m l g (by simpa using h1) (by simpa using h2)
    rw [gcells_cons, show (m + 1) * 4 + 1 = (m * 4 + 1) + 1 + 1 + 1 + 1 from by omega, show (m + 1) * 4 = m * 4 + 1 + 1 + 1 + 1 from by omega]
    exact this
end Go.Proofs.YtjnafjgonoficaaGreatDoor
namespace Go.Proofs.YtjnafjgonoficaaGreatDoor
open Go.RowKit Go.Proofs.YtjnafjgonoficaaGreatDoorW.PrintWords
set_option linter.unusedVariables false
set_option linter.unusedSimpArgs false
theorem begin_calls (w : World) (base f i : Nat) (k : ByteArray) (S T : Lx.GS) (h : FS w base f S) (hN : S.gs.length ≤ 100000) (ho : Lx.opens k = true) (hT : Lx.gstep 0 S k i = some T) :
    Calls Tryz.prog 65 #[.pointer (some ⟨f, 0, none⟩), .int .i64 i] w fun e w' => e = .returned (.tuple #[]) ∧ FS w' base f T ∧ Below base w w' := by
  unfold Lx.gstep at hT
  rw [if_pos ho] at hT
  rcases hs : S.st with _ | ⟨⟨n, b, e⟩, r⟩
  · rw [hs] at hT
    cases hT
    exact begin_nil w base f i S h hs hN
  · rw [hs] at hT
    cases hT
    exact begin_cons w base f i S h n b e r hs hN
set_option maxRecDepth 100000 in
set_option maxHeartbeats 4000000 in
theorem step_open (w : World) (base f i : Nat) (k : ByteArray) (S T : Lx.GS) (h : FS w base f S) (hN : S.gs.length ≤ 100000) (ho : Lx.opens k = true) (hT : Lx.gstep 0 S k i = some T) :
    Calls Tryz.prog 44 #[.pointer (some ⟨f, 0, none⟩), .string k, .int .i64 i] w fun e w' => e = .returned (.bool true) ∧ FS w' base f T ∧ Below base w w' := by
  have H := Aside0.mk (begin_calls w base f i k S T h hN ho hT)
  clear h hT
  go_enter Tryz.func44, Tryz.ntmps44
  go_wp2_with (first | (go_at_call 43; (with_reducible refine (opens_calls k _).mono ?_); rintro e w' ⟨rfl, rfl⟩) | (go_at_call 65; (refine H.out.mono ?_); rintro e w' ⟨rfl, hf, hb⟩; have HF := Aside0.mk hf; have HB := Aside0.mk hb; clear hf hb))
  go_ret
  exact ⟨rfl, HF.out, HB.out⟩
theorem step_none (w : World) (base f i : Nat) (k : ByteArray) (ho : Lx.opens k = false) (hc : Lx.closes k = false) :
    Calls Tryz.prog 44 #[.pointer (some ⟨f, 0, none⟩), .string k, .int .i64 i] w fun e w' => e = .returned (.bool true) ∧ w = w' := by
  unfold Lx.closes at hc
  rw [Bool.or_eq_false_iff, Bool.or_eq_false_iff] at hc
  obtain ⟨⟨h1, h2⟩, h3⟩ := hc
  unfold Lx.sElif at h1
  unfold Lx.sElse at h2
  unfold Lx.sEndif at h3
  go_enter Tryz.func44, Tryz.ntmps44
  go_wp2_with (first | (go_at_call 43; (with_reducible refine (opens_calls k _).mono ?_); rintro e w' ⟨rfl, rfl⟩))
  go_ret
  exact ⟨rfl, rfl⟩
end Go.Proofs.YtjnafjgonoficaaGreatDoor
namespace Go.Proofs.YtjnafjgonoficaaGreatDoor
open Go.RowKit Go.Proofs.YtjnafjgonoficaaGreatDoorW.PrintWords
set_option linter.unusedVariables false
set_option linter.unusedSimpArgs false
set_option maxRecDepth 100000 in
set_option maxHeartbeats 4000000 in
theorem step_bad (w : World) (base f : Nat) (i : Nat) (k : ByteArray) (S : Lx.GS) (h : FS w base f S) (ho : Lx.opens k = false) (hc : Lx.closes k = true) (hs : S.st = []) :
    Calls Tryz.prog 44 #[.pointer (some ⟨f, 0, none⟩), .string k, .int .i64 i] w fun e w' => e = .returned (.bool false) ∧ w = w' := by
  obtain ⟨v, p, ls, hf, hbf, hll, hown, hrows, hch, hlt⟩ := h
  rw [hs] at hch
  obtain rfl : p = .pointer none := hch
  have c1 : w.cell? ⟨f, 1, none⟩ = some (.pointer none) := by rw [blk_cell hf]; rfl
  have hfl := blk_lt hf
  clear hs hf hown hrows hlt hll
  unfold Lx.closes Lx.sElif Lx.sElse Lx.sEndif at hc
  cases h1 : (k.toList == [101, 108, 105, 102])
  · cases h2 : (k.toList == [101, 108, 115, 101])
    · cases h3 : (k.toList == [101, 110, 100, 105, 102])
      · rw [h1, h2, h3] at hc; simp at hc
      · clear hc
        go_enter Tryz.func44, Tryz.ntmps44
        go_wp2_with (go_at_call 43; (with_reducible refine (opens_calls k _).mono ?_); rintro e w' ⟨rfl, rfl⟩)
        go_ret
        exact ⟨rfl, rfl⟩
    · clear hc
      go_enter Tryz.func44, Tryz.ntmps44
      go_wp2_with (go_at_call 43; (with_reducible refine (opens_calls k _).mono ?_); rintro e w' ⟨rfl, rfl⟩)
      go_ret
      exact ⟨rfl, rfl⟩
  · clear hc
    go_enter Tryz.func44, Tryz.ntmps44
    go_wp2_with (go_at_call 43; (with_reducible refine (opens_calls k _).mono ?_); rintro e w' ⟨rfl, rfl⟩)
    go_ret
    exact ⟨rfl, rfl⟩
end Go.Proofs.YtjnafjgonoficaaGreatDoor
namespace Go.Proofs.YtjnafjgonoficaaGreatDoor
open Go.RowKit Go.Proofs.YtjnafjgonoficaaGreatDoorW.PrintWords
set_option linter.unusedVariables false
set_option linter.unusedSimpArgs false
theorem modify_set (F : Lx.G → Lx.G) : ∀ (gs : List Lx.G) (n : Nat) (g : Lx.G), gs[n]? = some g → gs.modify n F = gs.set n (F g)
  | [], n, g, h => by simp at h
  | a :: r, 0, g, h => by simp at h; subst h; rfl
  | a :: r, n + 1, g, h => by rw [List.modify_succ_cons, List.set_cons_succ, modify_set F r n g (by simpa using h)]
/-- The finder, its parts told. -/
def FSc (w : World) (base f : Nat) (S : Lx.GS) (v p : Value) (ls : List Value) : Prop := w.heap[f]? = some (.cells #[v, p] 80 (0, 0)) ∧ base ≤ f ∧ ls.length = S.gs.length ∧ w.ownsRow base 41 4 v S.gs.length (gcells ls S.gs) ∧ RowsAt w base ls S.gs ∧
  Chain w base p S.st w.heap.size ∧ ∀ x ∈ S.st, x.1 < S.gs.length
theorem FSc.fs {w : World} {base f : Nat} {S : Lx.GS} {v p : Value} {ls : List Value} (h : FSc w base f S v p ls) : FS w base f S := ⟨v, p, ls, h⟩
/-- The cells of the groups' array. -/
theorem own_heap {w : World} {base g n cap : Nat} {e : TypeId} {size : Nat} {xs : List Value} (h : w.ownsRow base e size (.slice (some ⟨g, 0, none⟩) n cap) n xs) : ∃ cur, w.heap[g]? = some (.cells cur e (0, 0)) ∧ base ≤ g := by
  rcases h.2 with ⟨h', _⟩ | ⟨g', cap', cur, h', hb, hg, _⟩
  · simp at h'
  · simp only [Value.slice.injEq, Option.some.injEq, Addr.mk.injEq, and_true, true_and] at h'
    obtain ⟨rfl, rfl⟩ := h'
    exact ⟨cur, hg, hb⟩
theorem fsc_kept {w w' : World} {base f k : Nat} {S : Lx.GS} {v p : Value} {ls : List Value} {cs : Array Value} {t : TypeId} (h : FSc w base f S v p ls) (hg : w.grownBy w' (some k)) (hk : w.heap[k]? = some (.cells cs t (0, 0))) (h1 : t ≠ 3) (h2 : t ≠ 41) (h3 : t ≠ 80) (h4 : t ≠ 82) : FSc w' base f S v p ls := by
  obtain ⟨hf, hbf, hll, hown, hrows, hch, hlt⟩ := h
  refine ⟨(hg.block f (blk_lt hf) (fun e => ?_)).trans hf, hbf, hll, own_kept_ty hown hg hk (fun e => h2 e.symm), hrows.ty hg hk (fun e => h1 e.symm), Chain.kept hg _ _ _ _ hch hg.size (fun k' cs' hk' hl e => ?_), hlt⟩
  · have := Option.some.inj e
    subst this
    rw [hk] at hf; simp at hf; exact h3 hf.2
  · cases hk'
    rw [hk] at e; simp at e; exact h4 e.2
/-- A line more in one group. -/
theorem fsc_line {w w1 : World} {base f gb N c n : Nat} {S : Lx.GS} {p lv v1 : Value} {ls : List Value} {g : Lx.G} {i : Int} (h : FSc w base f S (.slice (some ⟨gb, 0, none⟩) N c) p ls) (hm : ls[n]? = some lv) (hg : S.gs[n]? = some g)
    (hw : w.grownBy w1 lv.ownBlock) (ho : w1.ownsRow base 3 1 v1 (g.lines.length + 1) (intCells g.lines ++ [.int .i64 i])) (hat : v1.ownBlock = lv.ownBlock ∨ ∃ b, v1.ownBlock = some b ∧ w.heap.size ≤ b) :
    FSc (w1.setCell ⟨gb, n * 4, none⟩ v1) base f ⟨S.gs.modify n fun g => ⟨g.lines ++ [i], g.br, g.par, g.bch⟩, S.st⟩ (.slice (some ⟨gb, 0, none⟩) N c) p (ls.set n v1) := by
  obtain ⟨hf, hbf, hll, hown, hrows, hch, hlt⟩ := h
  have hN := hown.1
  have hNe : S.gs.length = N := by
    rcases hown.2 with ⟨h', _⟩ | ⟨g', cap', cur, h', _⟩
    · simp at h'
    · simp only [Value.slice.injEq] at h'; exact h'.2.1.symm
  rw [hNe] at hown
  have hlvo := (hrows.1 n lv g hm hg).2
  have hml : n < ls.length := (List.getElem?_eq_some_iff.1 hm).1
  obtain ⟨cur, hcur, hbg⟩ := own_heap hown
  have hown1 := own_kept_row hown hlvo hw (by decide)
  have hf1 : w1.heap[f]? = some (.cells #[.slice (some ⟨gb, 0, none⟩) N c, p] 80 (0, 0)) := (hw.block f (blk_lt hf) (own_ne hlvo hf (by decide))).trans hf
  obtain ⟨cur1, hcur1, -⟩ := own_heap hown1
  have hne : gb ≠ f := fun e => by rw [e, hf1] at hcur1; simp at hcur1
  have hset : w1.grownBy (w1.setCell ⟨gb, n * 4, none⟩ v1) (some gb) := grown_set (World.grownBy.refl _ _) _ _
  have hrows1 := hrows.grow (g' := ⟨g.lines ++ [i], g.br, g.par, g.bch⟩) hll hm hg hw (by simp) (by
    have e1 : intCells (g.lines ++ [i]) = intCells g.lines ++ [.int .i64 i] := by unfold intCells; rw [List.map_append]; rfl
    rw [e1]; simpa using ho) hat
  have e2 : S.gs.modify n (fun g => ⟨g.lines ++ [i], g.br, g.par, g.bch⟩) = S.gs.set n ⟨g.lines ++ [i], g.br, g.par, g.bch⟩ := by
    exact modify_set _ _ _ _ hg
  refine ⟨(hset.block f (blk_lt hf1) (by simpa using fun e => hne e.symm)).trans hf1, hbf, by simp [hll], ?_, ?_, ?_, ?_⟩
  · dsimp only
    rw [List.length_modify, hNe, gcells_lines v1 (fun g => ⟨g.lines ++ [i], g.br, g.par, g.bch⟩) (fun g => ⟨rfl, rfl, rfl⟩) ls S.gs n hll hml]
    exact (hown1.stored _ _).1
  · dsimp only
    rw [e2]
    exact hrows1.ty hset hcur1 (by decide)
  · have h1 := Chain.kept hw _ _ _ w1.heap.size hch hw.size (fun k cs hk hl e => own_ne hlvo e (by decide) hk.symm)
    exact Chain.kept hset _ _ _ _ h1 hset.size (fun k cs hk hl e => by
      have := Option.some.inj hk
      subst this
      rw [hcur1] at e; simp at e)
  · intro x hx; dsimp only; rw [List.length_modify]; exact hlt x hx
/-- The branches of one group are told. -/
theorem fsc_br {w : World} {base f gb N c n : Nat} {S : Lx.GS} {p : Value} {ls : List Value} (x : Int) (h : FSc w base f S (.slice (some ⟨gb, 0, none⟩) N c) p ls) (hn : n < S.gs.length) :
    FSc (w.setCell ⟨gb, n * 4 + 1, none⟩ (.int .i64 x)) base f ⟨S.gs.modify n fun g => ⟨g.lines, x, g.par, g.bch⟩, S.st⟩ (.slice (some ⟨gb, 0, none⟩) N c) p ls := by
  obtain ⟨hf, hbf, hll, hown, hrows, hch, hlt⟩ := h
  have hNe : S.gs.length = N := by
    rcases hown.2 with ⟨h', _⟩ | ⟨g', cap', cur, h', _⟩
    · simp at h'
    · simp only [Value.slice.injEq] at h'; exact h'.2.1.symm
  rw [hNe] at hown
  obtain ⟨cur, hcur, hbg⟩ := own_heap hown
  have hne : gb ≠ f := fun e => by rw [e, hf] at hcur; simp at hcur
  have hset : w.grownBy (w.setCell ⟨gb, n * 4 + 1, none⟩ (.int .i64 x)) (some gb) := grown_set (World.grownBy.refl _ _) _ _
  refine ⟨(hset.block f (blk_lt hf) (by simpa using fun e => hne e.symm)).trans hf, hbf, by simp [hll], ?_, ?_, ?_, ?_⟩
  · dsimp only
    rw [List.length_modify, hNe, gcells_br x (fun g => ⟨g.lines, x, g.par, g.bch⟩) (fun g => ⟨rfl, rfl⟩) (fun g => rfl) ls S.gs n hll (by omega)]
    exact (hown.stored _ _).1
  · have h1 := hrows.ty hset hcur (by decide)
    constructor
    · intro j l g h2 h3
      dsimp only at h3
      rw [List.getElem?_modify] at h3
      obtain ⟨g0, h0, rfl⟩ := Option.map_eq_some_iff.1 h3
      have := h1.1 j l g0 h2 h0
      split
      · exact this
      · exact this
    · exact h1.2
  · exact Chain.kept hset _ _ _ _ hch hset.size (fun k cs hk hl e => by
      have := Option.some.inj hk
      subst this
      rw [hcur] at e; simp at e)
  · intro y hy; dsimp only; rw [List.length_modify]; exact hlt y hy
/-- The innermost open group is turned. -/
theorem fsc_top {w : World} {base f blk n b b' : Nat} {e e' : Bool} {r : List (Nat × Nat × Bool)} {gs : List Lx.G} {v q : Value} {ls : List Value}
    (h : FSc w base f ⟨gs, (n, b, e) :: r⟩ v (.pointer (some ⟨blk, 0, none⟩)) ls) (hb : w.heap[blk]? = some (.cells #[.int .i64 n, .int .i64 b, .bool e, q] 82 (0, 0))) :
    FSc ((w.setCell ⟨blk, 1, none⟩ (.int .i64 (b' : Int))).setCell ⟨blk, 2, none⟩ (.bool e')) base f ⟨gs, (n, b', e') :: r⟩ v (.pointer (some ⟨blk, 0, none⟩)) ls := by
  obtain ⟨hf, hbf, hll, hown, hrows, hch, hlt⟩ := h
  obtain ⟨blk2, q2, e1, e2, e3, e4, e5⟩ := hch
  simp only [Value.pointer.injEq, Option.some.injEq, Addr.mk.injEq, and_true] at e1
  subst e1
  have hset : w.grownBy ((w.setCell ⟨blk, 1, none⟩ (.int .i64 (b' : Int))).setCell ⟨blk, 2, none⟩ (.bool e')) (some blk) := grown_set (grown_set (World.grownBy.refl _ _) _ _) _ _
  have hne : blk ≠ f := fun e => by rw [e, hf] at hb; simp at hb
  have hnb := blk_set (blk_set hb 1 (.int .i64 (b' : Int))) 2 (.bool e')
  rw [hb] at e4
  have hq : q2 = q := by simp at e4; exact e4.symm
  subst hq
  refine ⟨(hset.block f (blk_lt hf) (by simpa using fun e => hne e.symm)).trans hf, hbf, hll, own_kept_ty hown hset hb (by decide), hrows.ty hset hb (by decide), ?_, ?_⟩
  · refine ⟨blk, q2, rfl, e2, by simpa [World.setCell] using e3, hnb, ?_⟩
    exact Chain.kept hset r q2 blk blk e5 (Nat.le_refl _) (fun k cs hk hl e => by have := Option.some.inj hk; omega)
  · intro x hx
    rcases List.mem_cons.1 hx with rfl | hx
    · exact hlt (n, b, e) List.mem_cons_self
    · exact hlt x (List.mem_cons_of_mem _ hx)
/-- The innermost open group is closed. -/
theorem fsc_pop {w : World} {base f blk n b : Nat} {e : Bool} {r : List (Nat × Nat × Bool)} {gs : List Lx.G} {v q : Value} {ls : List Value}
    (h : FSc w base f ⟨gs, (n, b, e) :: r⟩ v (.pointer (some ⟨blk, 0, none⟩)) ls) (hb : w.heap[blk]? = some (.cells #[.int .i64 n, .int .i64 b, .bool e, q] 82 (0, 0))) :
    FSc (w.setCell ⟨f, 1, none⟩ q) base f ⟨gs, r⟩ v q ls := by
  obtain ⟨hf, hbf, hll, hown, hrows, hch, hlt⟩ := h
  obtain ⟨blk2, q2, e1, e2, e3, e4, e5⟩ := hch
  simp only [Value.pointer.injEq, Option.some.injEq, Addr.mk.injEq, and_true] at e1
  subst e1
  have hset : w.grownBy (w.setCell ⟨f, 1, none⟩ q) (some f) := grown_set (World.grownBy.refl _ _) _ _
  rw [hb] at e4
  have hq : q2 = q := by simp at e4; exact e4.symm
  subst hq
  refine ⟨blk_set hf 1 _, hbf, hll, own_kept_ty hown hset hf (by decide), hrows.ty hset hf (by decide), ?_, ?_⟩
  · exact Chain.kept hset r q2 blk _ e5 (by have := hset.size; omega) (fun k cs hk hl e => by
      have := Option.some.inj hk
      subst this
      rw [hf] at e; simp at e)
  · intro x hx; exact hlt x (List.mem_cons_of_mem _ hx)
end Go.Proofs.YtjnafjgonoficaaGreatDoor
