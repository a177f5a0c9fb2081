/-
  slices.Backward over strings: what its iterator hands on, the last one first. Conditions: the rounds leave the slice and the variable that holds it alone.
  What the evaluator's 'one' comes to. Conditions: the evaluator's block is its own; what operands come to is known.
-/
import Derived.RangeFuncNested
import Derived.RangeFuncBox
import Derived.RangeFuncLeaves
import Derived.Shelf.Abstract
import Derived.WalkKit
import Derived.OwnWalkIn
import Derived.TacticsInMore
import Derived.LoopNIn
import Derived.LoopIn
import Derived.LoopN
import Derived.Test.YtjnafjgonoficaaGreatDoorK14
namespace Go.Proofs.YtjnafjgonoficaaGreatDoor
open Go.RowKit Go.Shelf Go.Proofs.YtjnafjgonoficaaGreatDoorW.PrintWords
set_option linter.unusedVariables false
set_option linter.unusedSimpArgs false
attribute [local go_sem] Oper.semAt_some
/-- What comes when j have come; the first k. -/
def downAt (L : List ByteArray) (j : Nat) : Nat × ByteArray := (L.length - 1 - j, L[L.length - 1 - j]?.getD ⟨#[]⟩)
def downTo (L : List ByteArray) (k : Nat) : List (Nat × ByteArray) := (List.range k).map (downAt L)
theorem downTo_succ (L : List ByteArray) (k : Nat) : downTo L (k + 1) = downTo L k ++ [downAt L k] := by simp [downTo, List.range_succ]
theorem downTo_length (L : List ByteArray) (k : Nat) : (downTo L k).length = k := by simp [downTo]
theorem down_snd (L : List ByteArray) : (downTo L L.length).map (·.2) = L.reverse := by
  apply List.ext_getElem
  · simp [downTo]
  · intro i h1 h2
    have hi : i < L.length := by simpa using h2
    rw [List.getElem_reverse, List.getElem_map]
    unfold downTo downAt
    rw [List.getElem_map, List.getElem_range]
    dsimp only
    rw [List.getElem?_eq_getElem (by omega)]
    rfl
theorem down_fold (L : List ByteArray) (v : Int) : (downTo L L.length).foldl (fun v x => Lx.signed1 x.2 v) v = Lx.signed L v := by
  have h : (downTo L L.length).foldl (fun v x => Lx.signed1 x.2 v) v = ((downTo L L.length).map (·.2)).foldl (fun v g => Lx.signed1 g v) v := by rw [List.foldl_map]
  rw [h, down_snd, List.foldl_reverse]
  rfl
/-- Two blocks lie as they lay. -/
def KeepTwo (p q : Nat) (A B : World) : Prop := B.heap[p]? = A.heap[p]? ∧ B.heap[q]? = A.heap[q]?
theorem KeepTwo.refl (p q : Nat) (A : World) : KeepTwo p q A A := ⟨rfl, rfl⟩
theorem KeepTwo.trans {p q : Nat} {A B C : World} (h : KeepTwo p q A B) (k : KeepTwo p q B C) : KeepTwo p q A C := ⟨k.1.trans h.1, k.2.trans h.2⟩
theorem KeepTwo.put {p q n : Nat} (hp : p < n) (hq : q < n) (W : World) (l : Nat) (o o' : Obj) (hl : n ≤ l) (h : W.heap[l]? = some o) (_ : o.isCells = false) (_ : o.isWalk = false) : KeepTwo p q W (W.putObj l o') :=
  ⟨World.putObj_heap_other (by omega), World.putObj_heap_other (by omega)⟩
set_option maxRecDepth 100000 in
set_option maxHeartbeats 4000000 in
theorem back1_in (F : Fence) (n : Nat) (hF : F.fn 140) (hro : F.round = none) (hn : 1 ≤ n) (l Bs q m0 cap : Nat) (A : Option Addr) (L : List ByteArray) (hm : L.length = m0) (hreach : m0 ≤ 1000000) (J Jx : List (Nat × ByteArray) → World → Prop)
    (hY : ∀ pre x W, J pre W → pre.length < m0 → YieldAt F (n - 1) Tryz.prog l #[.int .i64 (x.1 : Int), .string x.2] W fun e W' =>
      (e = .returned (.bool true) ∧ J (pre ++ [x]) W' ∧ KeepTwo Bs q W W') ∨ (e = .returned (.bool false) ∧ Jx (pre ++ [x]) W'))
    (W : World) (hBs : W.cell? ⟨Bs, 0, none⟩ = some (.slice A m0 cap)) (hA : m0 = 0 ∨ ∃ off, A = some ⟨q, off, none⟩ ∧ m0 ≤ cap ∧ ∀ j, j < m0 → W.cell? ⟨q, off + j, none⟩ = some (.string (L[j]?.getD ⟨#[]⟩))) (h0 : J [] W) :
    CallsIn F n Tryz.prog 140 #[.func (.yield l) #[] #[], .pointer (some ⟨Bs, 0, none⟩)] W fun e W' => (∃ v, e = .returned v) ∧
      ((∃ ys, ys = downTo L m0 ∧ J ys W') ∨ (∃ pre, True ∧ Jx pre W')) := by
  have hw0 : IntKind.i64.wrap ((m0 : Int) - 1) = (m0 : Int) - 1 := IntWalk.i64_in _ (by omega)
  refine callsIn_of_wp Tryz.func140 rfl hF ?_ hro
  simp only [Tryz.ntmps140, List.size_toArray, List.length_cons, List.length_nil, Nat.reduceAdd, Nat.reduceSub, Array.replicate_succ, Array.replicate_zero, List.push_toArray, List.append_toArray, List.nil_append, List.cons_append]
  gi_wp2
  gi_loopw [3] (fun i wr => ∃ m k : Nat, m + k = m0 ∧ i = .int .i64 ((m : Int) - 1) ∧ J (downTo L k) wr ∧ KeepTwo Bs q W wr)
    (fun i _ => (intOf i + 1).toNat)
  case atStart => exact ⟨m0, 0, rfl, by go_num, h0, KeepTwo.refl _ _ _⟩
  case round =>
    obtain ⟨m, k, hmk, rfl, hJs, hkp⟩ := hrel
    have hbs := (World.cell?_of_block (w := W) (a := ⟨Bs, 0, none⟩) hkp.1).trans hBs
    cases m with
    | zero =>
      obtain rfl : k = m0 := by omega
      rw [show ((0 : Nat) : Int) - 1 = -1 from rfl]
      gi_wp2
      go_end0
      exact ⟨⟨_, rfl⟩, .inl ⟨_, rfl, hJs⟩⟩
    | succ p =>
      have hp1 : ((p + 1 : Nat) : Int) - 1 = (p : Int) := by omega
      rw [hp1]
      obtain ⟨off, rfl, hcap, hcs⟩ := hA.resolve_left (by omega)
      have hcx : wr.cell? ⟨q, off + p, none⟩ = some (.string (L[p]?.getD ⟨#[]⟩)) := (World.cell?_of_block (w := W) (a := ⟨q, off + p, none⟩) hkp.2).trans (hcs p (by omega))
      have hd : downAt L k = (p, L[p]?.getD ⟨#[]⟩) := by
        unfold downAt
        rw [show L.length - 1 - k = p by omega]
      generalize L[p]?.getD ⟨#[]⟩ = g at hcx hd
      have HD := Aside0.mk hd
      clear hd hcs
      obtain ⟨fn, tmps, assign, body, hy, hR⟩ := hY _ (p, g) wr hJs (by rw [downTo_length]; omega)
      dsimp only at hy
      have hw1 : IntKind.i64.wrap ((p : Int) - 1) = (p : Int) - 1 := IntWalk.i64_in _ (by omega)
      have hlt : p < m0 := by omega
      gi_wp2
      refine hR.mono ?_
      rintro e W3 (⟨rfl, hJ3, hk3⟩ | ⟨rfl, hJx3⟩)
      · gi_wp2
        go_roundw
        case rel => exact ⟨p, k + 1, by omega, by go_num, by rw [downTo_succ, HD.out]; exact hJ3, hkp.trans hk3⟩
        case measure => simp [intOf]
      · gi_wp2
        refine bodyPost_ret (results_none rfl _ _ _) rfl ?_
        exact ⟨⟨_, rfl⟩, .inr ⟨_, trivial, hJx3⟩⟩
/-- What slices.Backward's value hands on: the strings, the last one first. -/
theorem back_stops (F : Fence) (n : Nat) (hF : F.fn 140) (hro : F.round = none) (hn : 1 ≤ n) (Bs q m0 cap : Nat) (A : Option Addr) (L : List ByteArray) (hm : L.length = m0) (hreach : m0 ≤ 1000000) (w : World) (hBl : Bs < w.heap.size)
    (hBs : w.cell? ⟨Bs, 0, none⟩ = some (.slice A m0 cap)) (hA : m0 = 0 ∨ ∃ off, A = some ⟨q, off, none⟩ ∧ m0 ≤ cap ∧ q < w.heap.size ∧ ∀ j, j < m0 → w.cell? ⟨q, off + j, none⟩ = some (.string (L[j]?.getD ⟨#[]⟩))) :
    SeqStopsK F n Tryz.prog 140 #[.pointer (some ⟨Bs, 0, none⟩)] (fun x : Nat × ByteArray => #[Value.int .i64 (x.1 : Int), Value.string x.2]) (KeepTwo Bs q) (fun ys => ys = downTo L m0) (fun _ => True) m0 w := fun l J Jx W hW _ _ hY h0 => by
  refine back1_in F n hF hro hn l Bs q m0 cap A L hm hreach J Jx hY W ((hW.cell (p := ⟨Bs, 0, none⟩) hBl).trans hBs) (hA.imp id ?_) h0
  rintro ⟨off, e, hc, hq, hcs⟩
  exact ⟨off, e, hc, fun j hj => (hW.cell (p := ⟨q, off + j, none⟩) hq).trans (hcs j hj)⟩
/-- A function with a range over a function in its body, by the plain walk. -/
theorem calls_of_wp_marks {P : Program} {f : FuncId} {fn : Func} {c : Code} {args : Array Value} {w : World} {R : Ending → World → Prop} (hf : P.funcs[f]? = some fn) (hb : fn.body = some c)
    (h : c.wp P (bodyPostM Fence.wide 8 P fn R) { tmps := args ++ Array.replicate (fn.ntmps - args.size) undef, defers := [] } w) : Calls P f args w R :=
  callsIn_wide.1 (callsIn_of_wp_marks (n := 8) hf hb trivial (wpIn_wide.2 h) rfl)
end Go.Proofs.YtjnafjgonoficaaGreatDoor
namespace Go.Proofs.YtjnafjgonoficaaGreatDoor
open Go.RowKit Go.Shelf Go.Proofs.YtjnafjgonoficaaGreatDoorW.PrintWords
set_option linter.unusedVariables false
set_option linter.unusedSimpArgs false
attribute [local go_sem] Oper.semAt_some
/-- Where the signs lie. -/
theorem signs_at {w5 w7 : World} {base n c3 : Nat} {A3 : Option Addr} {done : List ByteArray} (hn : done.length = n) (h5 : w5.ownsRow base 9 1 (.slice A3 n c3) n (done.map .string)) (h7 : w7.ownsRow base 9 1 (.slice A3 n c3) n (done.map .string)) (hs : w7.heap.size = w5.heap.size + 2) :
    ∃ q, q < w7.heap.size ∧ q ≠ w5.heap.size ∧ (n = 0 ∨ ∃ off, A3 = some ⟨q, off, none⟩ ∧ n ≤ c3 ∧ q < w7.heap.size ∧ ∀ j, j < n → w7.cell? ⟨q, off + j, none⟩ = some (.string (done[j]?.getD ⟨#[]⟩))) := by
  rcases Nat.eq_zero_or_pos n with h0 | h0
  · exact ⟨w5.heap.size + 1, by omega, by omega, .inl h0⟩
  · have hcap : n ≤ c3 := by
      rcases h5.2 with ⟨e, h1⟩ | ⟨g, cap, cur, e, -, -, h1, -⟩
      · omega
      · simp only [Value.slice.injEq] at e
        omega
    obtain ⟨g, c', e, hgb, hgl⟩ := h5.form h0
    simp only [Value.slice.injEq] at e
    obtain ⟨rfl, -, rfl⟩ := e
    refine ⟨g, by omega, by omega, .inr ⟨0, rfl, hcap, by omega, fun j hj => ?_⟩⟩
    rw [Nat.zero_add, h7.cellAt j (by omega), List.getElem?_map, List.getElem?_eq_getElem (by omega)]
    rfl
theorem grown_new_row {w w1 w2 : World} {row row2 : Option Nat} (h : w.grownBy w1 row) (k : w1.grownBy w2 row2) (hr : ∀ b, row2 = some b → w.heap.size ≤ b) : w.grownBy w2 row :=
  ⟨k.os.trans h.os, k.tape.trans h.tape, k.output.trans h.output, Nat.le_trans h.size k.size, fun j hj hne => (k.block j (Nat.lt_of_lt_of_le hj h.size) (fun e => by have := hr j e.symm; omega)).trans (h.block j hj hne)⟩
theorem EV.row {w0 w w' : World} {dv ov : Value} {S : Lx.ES} {row : Option Nat} (h : EV w0 w dv ov S) (hg : w.grownBy w' row) (hr : ∀ b, row = some b → w0.heap.size < b) : EV w0 w' dv ov S := by
  obtain ⟨lv, h1, h2, h3⟩ := h
  exact ⟨lv, (hg.block _ (blk_lt h1) (fun e => by have := hr _ e.symm; omega)).trans h1, h2, h3.grown hg (by have := blk_lt h1; omega) (fun k hk => by have := hr k hk; omega)⟩
theorem info9 : (Tryz.prog.info? 9).map (fun i => (i.zero, i.size, i.bytes)) = some (some (.string ⟨#[]⟩), 1, 16) := by kernel_rfl
set_option maxRecDepth 100000 in
set_option maxHeartbeats 8000000 in
theorem one_step {num val : ByteArray → Int × Bool} {P : Lx.Tok → Prop} {w0 : World} {dv : Value} {og : Nat} : OneStep num val P w0 dv og := by
  intro m IH w S T v hf h
  have HLEN := Aside0.mk h.2.2
  cases m with
  | zero => unfold Lx.oneF at hf; cases hf
  | succ m =>
  unfold Lx.oneF at hf
  obtain ⟨x, hx⟩ : ∃ x, w0.heap.size = x := ⟨_, rfl⟩
  have HX := Aside0.mk hx
  have HEV := Aside0.mk h
  have HIH := Aside0.mk IH
  have HF := Aside0.mk hf
  have HIS := Aside0.mk (show ∀ W S' (g : List UInt8) (gb : ByteArray), gb.toList = g → EVP P w0 W dv (ovOf og) S' → Calls Tryz.prog 86 #[.pointer (some ⟨x, 0, none⟩), .string gb] W fun e w' => e = .returned (.bool (Lx.isS S' g)) ∧ EVP P w0 w' dv (ovOf og) (if Lx.isS S' g = true then S'.tl else S') ∧ W.grownBy w' (some x) from fun W S' g gb hg h => by
    have := is_callsP w0 W dv (ovOf og) S' g gb hg h
    rw [hx] at this
    exact this)
  obtain ⟨lv0, hx1, -, -⟩ := h.1
  rw [hx] at hx1 ⊢
  have hxl := blk_lt hx1
  obtain ⟨base, hbase⟩ : ∃ base, w.heap.size = base := ⟨_, rfl⟩
  have HBASE := Aside0.mk hbase
  have hxb : x < base := by omega
  clear hf h IH hx hx1 hbase
  refine calls_of_wp_marks Tryz.func83 rfl ?_
  simp only [Tryz.ntmps83, List.size_toArray, List.length_cons, List.length_nil, Nat.reduceAdd, Nat.reduceSub, Array.replicate_succ, Array.replicate_zero, List.push_toArray, List.append_toArray, List.nil_append, List.cons_append]
  go_wp2_with fail
  go_loopg [3] S.l.length (fun kq v3 W => ∃ (done : List ByteArray) (U : Lx.ES), Aside0 (Lx.signsOf S.l = done ++ Lx.signsOf U.l ∧ Lx.afterSigns S.l = Lx.afterSigns U.l ∧ U.bad = S.bad ∧ kq = U.l.length ∧ done.length + U.l.length = S.l.length) ∧ Aside0 (W.ownsRow base 9 1 v3 done.length (done.map .string)) ∧ Aside0 (EVP P w0 W dv (ovOf og) U) ∧ Aside0 (w.grownBy W (some x)))
  case atStart => exact ⟨[], S, ⟨rfl, rfl, rfl, rfl, by simp⟩, ⟨own_nil _ _ _ _⟩, HEV, ⟨World.grownBy.refl _ _⟩⟩
  case round =>
    obtain ⟨done, U, HK, HO, HU, HW⟩ := hrel
    obtain ⟨A3, c3, rfl⟩ := own_slice HO.out
    obtain ⟨n, hn⟩ : ∃ n, done.length = n := ⟨_, rfl⟩
    have HN := Aside0.mk hn
    rw [hn] at HO ⊢
    clear hn
    have hUW := HU.out.grown (World.grownBy_alloc wr (.cells #[.string ⟨#[33]⟩, .string ⟨#[45]⟩, .string ⟨#[43]⟩] 9) none)
    have HUW := Aside0.mk hUW
    cases h1 : Lx.isS U [33]
    · cases h2 : Lx.isS U [45]
      · cases h3 : Lx.isS U [43]
        · have k1 := is_no w0 _ dv (ovOf og) U [33] ⟨#[33]⟩ (by rw [ByteArray.toList_eq]) hUW.1 h1
          have k2 := is_no w0 _ dv (ovOf og) U [45] ⟨#[45]⟩ (by rw [ByteArray.toList_eq]) hUW.1 h2
          have k3 := is_no w0 _ dv (ovOf og) U [43] ⟨#[43]⟩ (by rw [ByteArray.toList_eq]) hUW.1 h3
          rw [HX.out] at k1 k2 k3
          have K1 := Aside0.mk k1
          have K2 := Aside0.mk k2
          have K3 := Aside0.mk k3
          have HST := Aside0.mk (Lx.signs_stop U.l U.bad h1 h2 h3)
          clear hUW k1 k2 k3 h1 h2 h3
          go_wp2_with fail
          refine wp_loop_rounds 4 ?_
          rw [rounds_succ]
          go_wp2_with (first | (go_at_call 86; (with_reducible refine K1.out.mono ?_); rintro e w' ⟨rfl, rfl⟩))
          rw [rounds_succ]
          go_wp2_with (first | (go_at_call 86; (with_reducible refine K2.out.mono ?_); rintro e w' ⟨rfl, rfl⟩))
          rw [rounds_succ]
          go_wp2_with (first | (go_at_call 86; (with_reducible refine K3.out.mono ?_); rintro e w' ⟨rfl, rfl⟩))
          have hfm := HF.out
          rw [HK.out.2.1, HST.out.2, ← HK.out.2.2.1] at hfm
          cases hop : Lx.operF num val m ⟨U.l, U.bad⟩ with
          | none => rw [hop] at hfm; cases hfm
          | some q =>
          obtain ⟨v1, T1⟩ := q
          rw [hop] at hfm
          dsimp only at hfm
          have HFM := Aside0.mk hfm
          have hor := HIH.out m (by omega) _ ⟨U.l, U.bad⟩ T1 v1 hop HUW.out
          rw [HX.out] at hor
          have HOR := Aside0.mk hor
          clear hfm hop hor
          rw [rounds_succ]
          go_wp2_with (first | (go_at_call 100; (with_reducible refine HOR.out.mono ?_); rintro e w5 ⟨rfl, hev, hg⟩; have HE5 := Aside0.mk hev; have HG5 := Aside0.mk hg; have ho5 := (HO.out.alloc (.cells #[.string ⟨#[33]⟩, .string ⟨#[45]⟩, .string ⟨#[43]⟩] 9)).kept hg (.inr (own_ne_of HO.out hxb)); have HO5 := Aside0.mk ho5; clear hev hg ho5) | go_in)
          have hrow7 := (HO5.out.alloc (.cells #[.int .i64 v1] 2)).alloc (.cells #[.slice A3 n c3] 62)
          have hvb := ((World.grownBy_alloc (w5.alloc (.cells #[.int .i64 v1] 2)) (.cells #[.slice A3 n c3] 62) none).block w5.heap.size (by simp) (by simp)).trans (blk_new w5 (.cells #[.int .i64 v1] 2))
          have hsb := blk_new (w5.alloc (.cells #[.int .i64 v1] 2)) (.cells #[.slice A3 n c3] 62)
          rw [World.size_alloc] at hsb
          have hb7 : Below w5.heap.size w5 ((w5.alloc (.cells #[.int .i64 v1] 2)).alloc (.cells #[.slice A3 n c3] 62)) := ((Below.refl _ _).alloc (Nat.le_refl _) _).alloc (by simp) _
          have hs7 : ((w5.alloc (.cells #[.int .i64 v1] 2)).alloc (.cells #[.slice A3 n c3] 62)).heap.size = w5.heap.size + 2 := by simp
          have hn6 : n ≤ 1000000 := by have h9 := HK.out.2.2.2.2; have h8 := HLEN.out; have h7 := HN.out; omega
          refine (wpIn_wide (n := 8)).1 ?_
          obtain ⟨w7, hw7⟩ : ∃ w7, ((w5.alloc (.cells #[.int .i64 v1] 2)).alloc (.cells #[.slice A3 n c3] 62)) = w7 := ⟨_, rfl⟩
          rw [hw7] at hrow7 hvb hsb hb7 hs7 ⊢
          clear hw7
          obtain ⟨q, hql, hqv, hqa⟩ := signs_at HN.out HO5.out hrow7 hs7
          have HB7 := Aside0.mk hb7
          have HS7 := Aside0.mk hs7
          clear hb7
          refine wpIn_rangeFunc_ownF (F := Fence.wide) (n := 8) rfl (by decide) (gf := 140) (lb := #[.pointer (some ⟨w5.heap.size + 1, 0, none⟩)]) rfl trivial (enters_of Tryz.func140 (by kernel_rfl) rfl)
            (back_stops Fence.wide 7 trivial rfl (by decide) (w5.heap.size + 1) q n c3 A3 done HN.out hn6 w7 (by omega) (by rw [blk_cell hsb]; rfl) hqa) KeepTwo.trans (KeepTwo.put (by omega) hql) (Below.refl _ _) (fun _ => rfl)
            (fun pre W => (W.cell? ⟨w5.heap.size, 0, none⟩ = some (.int .i64 (pre.foldl (fun v x => Lx.signed1 x.2 v) v1)) ∧ W.frozen? ⟨w5.heap.size, 0, none⟩ = false) ∧ Below w5.heap.size w7 W)
            (fun _ _ _ => False)
            (OwnFrom.and (Own.from (fun s A B row hs hg hr => ⟨cell_kept hs.1 hg hr, (frozen_kept hs.1 hg hr).trans hs.2⟩) _) (ownFrom_below (by omega) (by omega)))
            (fun _ _ _ _ _ hs _ _ => hs)
            ⟨⟨by rw [blk_cell hvb]; rfl, blk_frozen hvb 0⟩, Below.refl _ _⟩
            (fun y => { tmps := #[Value.pointer (some { block := x, off := 0 }), undef, Value.int IntKind.i64 0, Value.slice A3 n c3, Value.int IntKind.i64 ↑n, undef, Value.string { data := #[43] }, Value.pointer (some { block := w5.heap.size, off := 0 }), undef, Value.string y.2, Value.slice A3 n c3, Value.int IntKind.i64 ↑n, Value.slice (some { block := wr.heap.size, off := 0 }) 3 3, Value.int IntKind.i64 3, Value.int IntKind.i64 3, Value.bool false, Value.pointer (some { block := wr.heap.size, off := 2 }), Value.string { data := #[43] }, Value.pointer (some { block := x, off := 0 }), Value.string { data := #[43] }, Value.bool false, u21, u22, u23, u24, Value.int IntKind.i64 3, Value.slice A3 n c3, Value.int IntKind.i64 ↑n, Value.int IntKind.i64 ↑n, Value.bool true, Value.pointer (some { block := x, off := 0 }), Value.int IntKind.i64 v1, Value.slice A3 n c3, Value.func (Fn.func 140) #[] #[Value.pointer (some { block := w5.heap.size + 1, off := 0 })], Value.int IntKind.i64 (y.1 : Int), Value.string y.2, undef, undef, undef, undef, undef, undef, undef, undef, undef, undef, undef], defers := [] }) ?assign ?body ?done ?stop
          case assign =>
            intro l y W K hK
            gi_wp2
            exact hK
          case body =>
            rintro l pre ⟨j, sg⟩ W ⟨⟨hc, hf⟩, hbl⟩ _
            obtain ⟨vv, hvv⟩ : ∃ vv, pre.foldl (fun v x => Lx.signed1 x.2 v) v1 = vv := ⟨_, rfl⟩
            rw [hvv] at hc
            have HVV := Aside0.mk hvv
            have HBL := Aside0.mk hbl
            have HF0 := hf
            obtain ⟨a, ha⟩ : ∃ a, (sg.toList == [33]) = a := ⟨_, rfl⟩
            obtain ⟨b, hb⟩ : ∃ b, (sg.toList == [45]) = b := ⟨_, rfl⟩
            have HS1 := Aside0.mk (show Lx.signed1 sg vv = if a = true then Lx.bit (vv == 0) else if b = true then Lx.w64 (-vv) else vv by unfold Lx.signed1; rw [ha, hb])
            clear hvv hbl hqa hsb hvb hrow7
            cases a <;> cases b
            all_goals
              gi_wp2_with (refine ⟨trivial, ?_⟩; gi_at_call 69; refine (CallsIn.inRound l (callsIn_wide.2 (bit_calls _ W))).mono ?_; rintro e w' ⟨rfl, rfl⟩)
            all_goals
              refine ⟨?_, ?_, ⟨?_, ?_⟩, ?_⟩
              · first | exact KeepsOthers.refl _ | exact KeepsOthers.setCell _ _ _
              · first | exact KeepTwo.refl _ _ _ | exact ⟨Below.heap_setCell _ _ _ _ (by dsimp only; omega), Below.heap_setCell _ _ _ _ (by dsimp only; omega)⟩
              · rw [List.foldl_append, HVV.out]
                show _ = some (Value.int .i64 (Lx.signed1 sg vv))
                rw [HS1.out]
                first | exact hc | exact World.cell?_setCell_same' _ _ _ (by rw [hc]; rfl)
              · first | exact hf | (rw [World.frozen?_setCell]; exact hf)
              · first | exact HBL.out | exact HBL.out.setCell (p := ⟨w5.heap.size, 0, none⟩) (Nat.le_refl _) _
          case done =>
            rintro D ys W hD rfl ⟨⟨hc, hf⟩, hbl⟩ hK
            rw [← HN.out, down_fold] at hc
            obtain ⟨vf, hvf⟩ : ∃ vf, Lx.signed done v1 = vf := ⟨_, rfl⟩
            rw [hvf] at hc
            have HVF := Aside0.mk hvf
            have HBL := Aside0.mk hbl
            have HK5 := Aside0.mk hK
            clear hvf hbl hqa hsb hvb hrow7 hK
            go_wp2_with fail
            refine ⟨by simp, .inl ⟨_, _, rfl, run_takeDeferred HK5.out, ?_⟩⟩
            have hbW : Below w5.heap.size w5 (W.putObj D (.deferred none)) := (HB7.out.trans HBL.out).trans ((Below.refl _ W).grown (grownBy_putObj' W D _) (by have := HB7.out.size; have := HBL.out.size; omega) (fun k e => by cases e; have := HS7.out; omega))
            have hgW := grown_below (World.grownBy.refl w5 none) hbW
            have hfm := HFM.out
            rw [HK.out.1, HST.out.1, List.append_nil, HVF.out] at hfm
            cases hfm
            exact ⟨_, results_tmp rfl _ _ _, rfl, HE5.out.grown hgW, grown_trans (grown_trans HW.out (grown_trans (World.grownBy_alloc _ _ _) HG5.out)) (grown_any hgW)⟩
          case stop =>
            rintro D c pre W _ _ h _
            exact h.elim
        · have k1 := is_no w0 _ dv (ovOf og) U [33] ⟨#[33]⟩ (by rw [ByteArray.toList_eq]) hUW.1 h1
          have k2 := is_no w0 _ dv (ovOf og) U [45] ⟨#[45]⟩ (by rw [ByteArray.toList_eq]) hUW.1 h2
          rw [HX.out] at k1 k2
          have K1 := Aside0.mk k1
          have K2 := Aside0.mk k2
          clear k1 k2 h1 h2
          obtain ⟨t, r, hl, hsg, htt⟩ := Lx.sign_came U.l U.bad [43] (by simp) h3
          have hbt := bytes_toList htt
          have ky := HIS.out _ U [43] ⟨#[43]⟩ (by rw [ByteArray.toList_eq]) hUW
          rw [h3] at ky
          have KY := Aside0.mk ky
          have HL := Aside0.mk hl
          have HBT := Aside0.mk hbt
          have HSC := Aside0.mk (Lx.signs_cons t r hsg)
          have hnn : n ≤ 100000 := by have h9 := HK.out.2.2.2.2; have h8 := HLEN.out; have h7 := HN.out; omega
          clear hUW ky hl hsg htt hbt h3
          go_wp2_with fail
          refine wp_loop_rounds 4 ?_
          rw [rounds_succ]
          go_wp2_with (first | (go_at_call 86; (with_reducible refine K1.out.mono ?_); rintro e w' ⟨rfl, rfl⟩))
          rw [rounds_succ]
          go_wp2_with (first | (go_at_call 86; (with_reducible refine K2.out.mono ?_); rintro e w' ⟨rfl, rfl⟩))
          rw [rounds_succ]
          go_wp2_with (first | (go_at_call 86; (with_reducible refine KY.out.mono ?_); rintro e w5 ⟨rfl, hev, hg⟩; have ho5 := (HO.out.alloc (.cells #[.string ⟨#[33]⟩, .string ⟨#[45]⟩, .string ⟨#[43]⟩] 9)).kept hg (.inr (own_ne_of HO.out hxb)); have HO5 := Aside0.mk ho5; have hsz5 : base ≤ w5.heap.size := (by have h1 := HW.out.size; have h2 := HBASE.out; have h3 := hg.size; simp at h3; omega); have HE5 := Aside0.mk hev; have HG5 := Aside0.mk hg; clear hev hg ho5) | (at_builtin; refine print_append_cells (w0 := w5) (W := w5) base rfl (.tmp 21) (.tmp 23) 62 9 (.string ⟨#[]⟩) 1 16 rfl Tryz.underlying62 info9 rfl (by decide) (by decide) (.slice A3 n c3) n (done.map .string) [.string ⟨#[43]⟩] (by rfl) (by simp [Act.eval]) rfl (by simp [Value.oneCell']) HO5.out (Below.refl _ _) hsz5 (by omega) ?_; intro v6 w6 hv6 hb6 hg6 hat6; obtain ⟨g6, cp6, hve, hg6b, -⟩ := hv6.form (by omega); subst hve; have HV6 := Aside0.mk hv6; have HG6 := Aside0.mk hg6; clear hv6 hb6 hg6 hat6))
          go_roundg r.length
          case measure => have h9 := HK.out.2.2.2.1; rw [HL.out] at h9; simp only [List.length_cons] at h9; omega
          case rel =>
            have htl : U.tl.l = r := by unfold Lx.ES.tl; rw [HL.out]; rfl
            have hrow : ∀ b, Value.ownBlock (.slice A3 n c3) = some b → base ≤ b := fun b hb => own_base HO5.out b hb
            have hbw : w.heap.size = base := HBASE.out
            refine ⟨done ++ [t.t], U.tl, ⟨?_, ?_, HK.out.2.2.1, by rw [htl], ?_⟩, ⟨?_⟩, ⟨⟨HE5.out.1.row HG6.out (fun b hb => by have := hrow b hb; rw [HX.out]; omega), HE5.out.2⟩⟩, ⟨grown_new_row (grown_trans HW.out (grown_trans (World.grownBy_alloc _ _ _) HG5.out)) HG6.out (fun b hb => by rw [hbw]; exact hrow b hb)⟩⟩
            · rw [HK.out.1, htl, HL.out, HSC.out.1, List.append_assoc]; rfl
            · rw [HK.out.2.1, htl, HL.out, HSC.out.2]
            · rw [htl, List.length_append, List.length_singleton]
              have h9 := HK.out.2.2.2.2
              rw [HL.out] at h9
              simp only [List.length_cons] at h9
              omega
            · rw [List.length_append, List.length_singleton, HN.out, List.map_append, HBT.out]
              exact HV6.out
      · have k1 := is_no w0 _ dv (ovOf og) U [33] ⟨#[33]⟩ (by rw [ByteArray.toList_eq]) hUW.1 h1
        rw [HX.out] at k1
        have K1 := Aside0.mk k1
        clear k1 h1
        obtain ⟨t, r, hl, hsg, htt⟩ := Lx.sign_came U.l U.bad [45] (by simp) h2
        have hbt := bytes_toList htt
        have ky := HIS.out _ U [45] ⟨#[45]⟩ (by rw [ByteArray.toList_eq]) hUW
        rw [h2] at ky
        have KY := Aside0.mk ky
        have HL := Aside0.mk hl
        have HBT := Aside0.mk hbt
        have HSC := Aside0.mk (Lx.signs_cons t r hsg)
        have hnn : n ≤ 100000 := by have h9 := HK.out.2.2.2.2; have h8 := HLEN.out; have h7 := HN.out; omega
        clear hUW ky hl hsg htt hbt h2
        go_wp2_with fail
        refine wp_loop_rounds 4 ?_
        rw [rounds_succ]
        go_wp2_with (first | (go_at_call 86; (with_reducible refine K1.out.mono ?_); rintro e w' ⟨rfl, rfl⟩))
        rw [rounds_succ]
        go_wp2_with (first | (go_at_call 86; (with_reducible refine KY.out.mono ?_); rintro e w5 ⟨rfl, hev, hg⟩; have ho5 := (HO.out.alloc (.cells #[.string ⟨#[33]⟩, .string ⟨#[45]⟩, .string ⟨#[43]⟩] 9)).kept hg (.inr (own_ne_of HO.out hxb)); have HO5 := Aside0.mk ho5; have hsz5 : base ≤ w5.heap.size := (by have h1 := HW.out.size; have h2 := HBASE.out; have h3 := hg.size; simp at h3; omega); have HE5 := Aside0.mk hev; have HG5 := Aside0.mk hg; clear hev hg ho5) | (at_builtin; refine print_append_cells (w0 := w5) (W := w5) base rfl (.tmp 21) (.tmp 23) 62 9 (.string ⟨#[]⟩) 1 16 rfl Tryz.underlying62 info9 rfl (by decide) (by decide) (.slice A3 n c3) n (done.map .string) [.string ⟨#[45]⟩] (by rfl) (by simp [Act.eval]) rfl (by simp [Value.oneCell']) HO5.out (Below.refl _ _) hsz5 (by omega) ?_; intro v6 w6 hv6 hb6 hg6 hat6; obtain ⟨g6, cp6, hve, hg6b, -⟩ := hv6.form (by omega); subst hve; have HV6 := Aside0.mk hv6; have HG6 := Aside0.mk hg6; clear hv6 hb6 hg6 hat6))
        go_roundg r.length
        case measure => have h9 := HK.out.2.2.2.1; rw [HL.out] at h9; simp only [List.length_cons] at h9; omega
        case rel =>
          have htl : U.tl.l = r := by unfold Lx.ES.tl; rw [HL.out]; rfl
          have hrow : ∀ b, Value.ownBlock (.slice A3 n c3) = some b → base ≤ b := fun b hb => own_base HO5.out b hb
          have hbw : w.heap.size = base := HBASE.out
          refine ⟨done ++ [t.t], U.tl, ⟨?_, ?_, HK.out.2.2.1, by rw [htl], ?_⟩, ⟨?_⟩, ⟨⟨HE5.out.1.row HG6.out (fun b hb => by have := hrow b hb; rw [HX.out]; omega), HE5.out.2⟩⟩, ⟨grown_new_row (grown_trans HW.out (grown_trans (World.grownBy_alloc _ _ _) HG5.out)) HG6.out (fun b hb => by rw [hbw]; exact hrow b hb)⟩⟩
          · rw [HK.out.1, htl, HL.out, HSC.out.1, List.append_assoc]; rfl
          · rw [HK.out.2.1, htl, HL.out, HSC.out.2]
          · rw [htl, List.length_append, List.length_singleton]
            have h9 := HK.out.2.2.2.2
            rw [HL.out] at h9
            simp only [List.length_cons] at h9
            omega
          · rw [List.length_append, List.length_singleton, HN.out, List.map_append, HBT.out]
            exact HV6.out
    · obtain ⟨t, r, hl, hsg, htt⟩ := Lx.sign_came U.l U.bad [33] (by simp) h1
      have hbt := bytes_toList htt
      have ky := HIS.out _ U [33] ⟨#[33]⟩ (by rw [ByteArray.toList_eq]) hUW
      rw [h1] at ky
      have KY := Aside0.mk ky
      have HL := Aside0.mk hl
      have HBT := Aside0.mk hbt
      have HSC := Aside0.mk (Lx.signs_cons t r hsg)
      have hnn : n ≤ 100000 := by have h9 := HK.out.2.2.2.2; have h8 := HLEN.out; have h7 := HN.out; omega
      clear hUW ky hl hsg htt hbt h1
      go_wp2_with fail
      refine wp_loop_rounds 4 ?_
      rw [rounds_succ]
      skip
      go_wp2_with (first | (go_at_call 86; (with_reducible refine KY.out.mono ?_); rintro e w5 ⟨rfl, hev, hg⟩; have ho5 := (HO.out.alloc (.cells #[.string ⟨#[33]⟩, .string ⟨#[45]⟩, .string ⟨#[43]⟩] 9)).kept hg (.inr (own_ne_of HO.out hxb)); have HO5 := Aside0.mk ho5; have hsz5 : base ≤ w5.heap.size := (by have h1 := HW.out.size; have h2 := HBASE.out; have h3 := hg.size; simp at h3; omega); have HE5 := Aside0.mk hev; have HG5 := Aside0.mk hg; clear hev hg ho5) | (at_builtin; refine print_append_cells (w0 := w5) (W := w5) base rfl (.tmp 21) (.tmp 23) 62 9 (.string ⟨#[]⟩) 1 16 rfl Tryz.underlying62 info9 rfl (by decide) (by decide) (.slice A3 n c3) n (done.map .string) [.string ⟨#[33]⟩] (by rfl) (by simp [Act.eval]) rfl (by simp [Value.oneCell']) HO5.out (Below.refl _ _) hsz5 (by omega) ?_; intro v6 w6 hv6 hb6 hg6 hat6; obtain ⟨g6, cp6, hve, hg6b, -⟩ := hv6.form (by omega); subst hve; have HV6 := Aside0.mk hv6; have HG6 := Aside0.mk hg6; clear hv6 hb6 hg6 hat6))
      go_roundg r.length
      case measure => have h9 := HK.out.2.2.2.1; rw [HL.out] at h9; simp only [List.length_cons] at h9; omega
      case rel =>
        have htl : U.tl.l = r := by unfold Lx.ES.tl; rw [HL.out]; rfl
        have hrow : ∀ b, Value.ownBlock (.slice A3 n c3) = some b → base ≤ b := fun b hb => own_base HO5.out b hb
        have hbw : w.heap.size = base := HBASE.out
        refine ⟨done ++ [t.t], U.tl, ⟨?_, ?_, HK.out.2.2.1, by rw [htl], ?_⟩, ⟨?_⟩, ⟨⟨HE5.out.1.row HG6.out (fun b hb => by have := hrow b hb; rw [HX.out]; omega), HE5.out.2⟩⟩, ⟨grown_new_row (grown_trans HW.out (grown_trans (World.grownBy_alloc _ _ _) HG5.out)) HG6.out (fun b hb => by rw [hbw]; exact hrow b hb)⟩⟩
        · rw [HK.out.1, htl, HL.out, HSC.out.1, List.append_assoc]; rfl
        · rw [HK.out.2.1, htl, HL.out, HSC.out.2]
        · rw [htl, List.length_append, List.length_singleton]
          have h9 := HK.out.2.2.2.2
          rw [HL.out] at h9
          simp only [List.length_cons] at h9
          omega
        · rw [List.length_append, List.length_singleton, HN.out, List.map_append, HBT.out]
          exact HV6.out
end Go.Proofs.YtjnafjgonoficaaGreatDoor
