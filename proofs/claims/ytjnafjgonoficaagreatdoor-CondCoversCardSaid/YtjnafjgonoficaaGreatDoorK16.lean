/-
  What CondLines comes to: true. Conditions: the library's variables are as their text lays them.
  What the rows' lists give the walks: the library's variables are as their text lays them. Conditions: the world is shaped, and the listed variables read as listed.
  What the seven rows share: the wrap of a law that lists variables, and a start in which Go's library's variables lie as listed. Conditions: none.
-/
import Derived.ProofKit
import Derived.OpenShut
import Derived.LaidMore
import Derived.Lay
import Derived.SevenTiedAt
import Derived.Stop.Joined
import Derived.Stop.LaidErr
import Derived.PinnedBridge
import Derived.Lib.LaidU8
import Derived.Lib.LaidCase
import Derived.Shelf.Vars
import Derived.HandedShaped
import Derived.Test.YtjnafjgonoficaaGreatDoorK15
import Derived.Test.YtjnafjgonoficaaGreatDoorK11
import Derived.Test.YtjnafjgonoficaaGreatDoorK12
import Derived.Test.YtjnafjgonoficaaGreatDoorK07
import Derived.Test.YtjnafjgonoficaaGreatDoorTie
namespace Go.Proofs.YtjnafjgonoficaaGreatDoor
open Go.RowKit Go.Proofs.YtjnafjgonoficaaGreatDoorW.PrintWords
set_option linter.unusedVariables false
set_option linter.unusedSimpArgs false
theorem ext_le (s : ByteArray) (a b : Nat) : (s.extract a b).size ≤ s.size := by
  rw [ByteArray.size_extract]; omega
theorem toks_short (s : ByteArray) (a : Nat) (f : Bool) : ∀ t ∈ Lx.toks s a f, t.t.size ≤ s.size := by
  unfold Lx.toks
  split
  · rename_i h
    intro t ht
    rcases List.mem_cons.1 ht with rfl | ht
    · exact ext_le _ _ _
    · exact toks_short s _ false t ht
  · intro t ht
    rw [List.mem_singleton.1 ht]
    exact Nat.zero_le _
  termination_by s.size - a
  decreasing_by omega
/-- The words' error. -/
def dirE (t : Lx.Tok) : Int := if Lx.isDir t = true then 0 else 3
theorem wdOf_len (t : Lx.Tok) (h : t.t.size ≤ 3000) : (Lx.wdOf t).length ≤ 1000000 := by
  unfold Lx.wdOf
  split
  · have h1 := Lx.wd_len (t.t.extract 1 t.t.size) 0
    have h2 := ext_le t.t 1 t.t.size
    omega
  · simp
theorem ln_words (t : Lx.Tok) (h : t.t.size ≤ 3000) (W : World) (hW : Laid W) : Calls Tryz.prog 11 #[.agg #[.int .i64 t.k, .string t.b, .string t.t, .int .i64 t.a]] W fun e w' => ∃ v, e = .returned (.tuple #[v, .int .i64 (dirE t)]) ∧ Tks w' v (Lx.wdOf t) ∧ Below W.heap.size W w' := by
  refine (condWords_calls t W (by omega) hW.maxLen hW.blanks (by have := hW.size; omega)).mono ?_
  rintro e w' ⟨v, h1, h2, h3⟩
  exact ⟨v, h1, own_tks h2, h3⟩
theorem ln_refs (t : Lx.Tok) (h : t.t.size ≤ 3000) (W : World) : Calls Tryz.prog 12 #[.agg #[.int .i64 t.k, .string t.b, .string t.t, .int .i64 t.a]] W fun e w' => ∃ v, e = .returned (.tuple #[v, .int .i64 (dirE t)]) ∧ Tks w' v (Lx.wdOf t) ∧ Below W.heap.size W w' := by
  refine (refWords_calls t W (by omega)).mono ?_
  rintro e w' ⟨v, h1, h2, h3⟩
  exact ⟨v, h1, own_tks h2, h3⟩
theorem ln_kind (t : Lx.Tok) (h : t.t.size ≤ 3000) (w3 : World) (hW : Laid w3) (W : World) (hb : Below w3.heap.size w3 W) : Calls Tryz.prog 13 #[.agg #[.int .i64 t.k, .string t.b, .string t.t, .int .i64 t.a]] W fun e w' => e = .returned (.string (Lx.kindOf t)) ∧ Below w3.heap.size w3 w' := by
  have hL := hW.below hb
  refine (condKind_calls t W (by omega) hL.maxLen hL.blanks (by have := hL.size; omega)).mono ?_
  rintro e w' ⟨h1, h2⟩
  exact ⟨h1, hb.trans (h2.mono hb.size)⟩
theorem ln_kindr (t : Lx.Tok) (h : t.t.size ≤ 3000) (w3 : World) (W : World) (hb : Below w3.heap.size w3 W) : Calls Tryz.prog 14 #[.agg #[.int .i64 t.k, .string t.b, .string t.t, .int .i64 t.a]] W fun e w' => e = .returned (.string (Lx.kindOf t)) ∧ Below w3.heap.size w3 w' := by
  refine (refKind_calls t W (by omega)).mono ?_
  rintro e w' ⟨h1, h2⟩
  exact ⟨h1, hb.trans (h2.mono hb.size)⟩
theorem ln_eq (va vb : Value) (l : List Lx.Tok) (hl : l.length ≤ 1000000) (w3 : World) (ha : Tks w3 va l) (hb2 : Tks w3 vb l) (W : World) (hb : Below w3.heap.size w3 W) : Calls Tryz.prog 15 #[va, vb] W fun e w' => e = .returned (.bool true) ∧ Below w3.heap.size w3 w' := by
  refine (eqTokens_calls va vb l W hl (ha.below hb) (hb2.below hb)).mono ?_
  rintro e w' ⟨h1, h2⟩
  exact ⟨h1, hb.trans ((below_drawn h2).mono hb.size)⟩
theorem ln_ints (v1 v2 : Value) (l : List Int) (hl : l.length ≤ 1000000) (w : World) (h1 : Ints w v1 l) (h2 : Ints w v2 l) (m : Nat) : Calls Tryz.prog 18 #[v1, v2] (w.drewN m) fun e w' => e = .returned (.bool true) ∧ ∃ k, w' = (w.drewN m).drewN k := by
  have hb : Below w.heap.size w (w.drewN m) := ⟨rfl, rfl, rfl, Nat.le_refl _, fun _ _ => rfl⟩
  refine (eqInts_calls v1 v2 l _ hl (h1.below hb) (h2.below hb)).mono ?_
  rintro e w' ⟨h3, h4⟩
  exact ⟨h3, h4.out⟩
set_option maxRecDepth 100000 in
set_option maxHeartbeats 8000000 in
theorem lines_calls (s : ByteArray) (w : World) (hL : Laid w) (hAW : AwC) : Calls Tryz.prog 3 #[.string s] w fun e w' => e = .returned (.bool true) ∧ Below w.heap.size w w' := by
  have HLD := Aside0.mk hL
  clear hL
  by_cases hs : 3000 < s.size
  · have HSC := Aside0.mk (scanned_long s w hs)
    clear hs
    go_enter Tryz.func3, Tryz.ntmps3
    go_wp2_with (first | (go_at_call 10; (with_reducible refine HSC.out.mono ?_); rintro e w' ⟨rfl, rfl⟩))
    go_ret
    exact ⟨rfl, Below.refl _ _⟩
  · have HSC := Aside0.mk (scanned_calls s w (by omega))
    have HSL := Aside0.mk (show ∀ t ∈ Lx.scan s, t.t.size ≤ 3000 from fun t ht => by have := toks_short s 0 true t ht; omega)
    have hlen := scan_len s
    obtain ⟨L, hLL⟩ : ∃ L, Lx.scan s = L := ⟨_, rfl⟩
    rw [hLL] at HSC HSL hlen
    obtain ⟨n, hn⟩ : ∃ n, L.length = n := ⟨_, rfl⟩
    rw [hn] at HSC hlen
    have hn3 : n ≤ 3001 := by omega
    have HN := Aside0.mk hn
    clear hs hLL hn hlen
    go_enter Tryz.func3, Tryz.ntmps3
    go_wp2_with (first | (go_at_call 10; (with_reducible refine HSC.out.mono ?_); rintro e w1 ⟨v, rfl, hv, hb⟩; have ht := own_tks (L := L) (by rw [HN.out]; exact hv); obtain ⟨A, c, rfl⟩ := own_slice hv; have HT := Aside0.mk ht; have HB1 := Aside0.mk hb; clear hv hb ht))
    have HL1 := Aside0.mk (HLD.out.below HB1.out)
    go_loopg [5] n (fun kq v5 W => ∃ i : Nat, v5 = .int .i64 i ∧ Aside0 (i ≤ n ∧ kq = n - i) ∧ Aside0 (Below w1.heap.size w1 W))
    case atStart => exact ⟨0, rfl, ⟨by omega, rfl⟩, ⟨Below.refl _ _⟩⟩
    case round =>
      obtain ⟨i, rfl, HJ, HW⟩ := hrel
      have hi := HJ.out.1
      by_cases hlt : i < n
      · obtain ⟨t, ht⟩ : ∃ t, L[i]? = some t := ⟨_, List.getElem?_eq_getElem (by have := HN.out; omega)⟩
        obtain ⟨A', c', e1, -, -, hor⟩ := HT.out
        rw [HN.out] at e1
        simp only [Value.slice.injEq] at e1
        obtain ⟨rfl, -, rfl⟩ := e1
        obtain ⟨g, o, rfl, hta, hgl⟩ := hor.resolve_left (fun e => by rw [e] at ht; simp at ht)
        obtain ⟨a0, a1, a2, a3⟩ := hta i t ht
        have a0 := (HW.out.cell hgl).trans a0
        have a1 := (HW.out.cell hgl).trans a1
        have a2 := (HW.out.cell hgl).trans a2
        have a3 := (HW.out.cell hgl).trans a3
        have hgw : g < wr.heap.size := Nat.lt_of_lt_of_le hgl HW.out.size
        have hts := HSL.out t (List.mem_of_getElem? ht)
        have hLr := HL1.out.below HW.out
        have HLR := Aside0.mk hLr
        have HC11 := Aside0.mk (ln_words t hts wr hLr)
        have HC12 := Aside0.mk (ln_refs t hts)
        have HTS := Aside0.mk hts
        clear ht hta hor hLr hts
        obtain ⟨d, hd⟩ : ∃ d, dirE t = d := ⟨_, rfl⟩
        rw [hd] at HC11 HC12
        clear hd
        go_wp2_with (first | (go_at_call 11; (with_reducible refine HC11.out.mono ?_); rintro e w2 ⟨va, rfl, hta, hb⟩; have b0 := (hb.cell hgw).trans a0; have b1 := (hb.cell hgw).trans a1; have b2 := (hb.cell hgw).trans a2; have b3 := (hb.cell hgw).trans a3; have hgw2 : g < w2.heap.size := Nat.lt_of_lt_of_le hgw hb.size; have HTA := Aside0.mk hta; have HB2 := Aside0.mk hb; clear hta hb) | (go_at_call 12; (with_reducible refine (HC12.out w2).mono ?_); rintro e w3 ⟨vb, rfl, htb, hb⟩; have z0 := (hb.cell hgw2).trans b0; have z1 := (hb.cell hgw2).trans b1; have z2 := (hb.cell hgw2).trans b2; have z3 := (hb.cell hgw2).trans b3; have hgw3 : g < w3.heap.size := Nat.lt_of_lt_of_le hgw2 hb.size; have HTA3 := Aside0.mk (HTA.out.below hb); have HTB3 := Aside0.mk htb; have HB3 := Aside0.mk (HB2.out.trans (hb.mono HB2.out.size)); clear htb hb))
        have HL3 := Aside0.mk (HLR.out.below HB3.out)
        have HK13 := Aside0.mk (ln_kind t HTS.out w3 HL3.out)
        have HK14 := Aside0.mk (ln_kindr t HTS.out w3)
        have HK15 := Aside0.mk (ln_eq va vb (Lx.wdOf t) (wdOf_len t HTS.out) w3 HTA3.out HTB3.out)
        obtain ⟨kk, hkk⟩ : ∃ kk, Lx.kindOf t = kk := ⟨_, rfl⟩
        rw [hkk] at HK13 HK14
        clear hkk a0 a1 a2 a3 b0 b1 b2 b3
        have hi0 : (0 : Int) ≤ (i : Int) := Int.natCast_nonneg _
        have hin : (i : Int) < (n : Int) := by omega
        go_region_held3 (fun (W : World) => W.cell? ⟨g, o + i * 4, none⟩ = some (.int .i64 t.k) ∧ W.cell? ⟨g, o + i * 4 + 1, none⟩ = some (.string t.b) ∧ W.cell? ⟨g, o + i * 4 + 2, none⟩ = some (.string t.t) ∧ W.cell? ⟨g, o + i * 4 + 3, none⟩ = some (.int .i64 t.a)) (first | exact ⟨y0, y1, y2, y3⟩ | exact ⟨z0, z1, z2, z3⟩) (first | (go_at_call 13; (refine (HK13.out _ (by repeat (first | exact HBX.out | exact Below.refl _ _ | apply Below.drew | apply below_drewN))).mono ?_); rintro e w6 ⟨rfl, hb⟩; have y0 := (hb.cell hgw3).trans z0; have y1 := (hb.cell hgw3).trans z1; have y2 := (hb.cell hgw3).trans z2; have y3 := (hb.cell hgw3).trans z3; have HBX := Aside0.mk hb; clear hb) | (go_at_call 14; (refine (HK14.out _ (by repeat (first | exact HBX.out | exact Below.refl _ _ | apply Below.drew | apply below_drewN))).mono ?_); rintro e w6 ⟨rfl, hb⟩; have y0 := (hb.cell hgw3).trans z0; have y1 := (hb.cell hgw3).trans z1; have y2 := (hb.cell hgw3).trans z2; have y3 := (hb.cell hgw3).trans z3; have HBX := Aside0.mk hb; clear hb) | (go_at_call 15; (refine (HK15.out _ (by repeat (first | exact HBX.out | exact Below.refl _ _ | apply Below.drew | apply below_drewN))).mono ?_); rintro e w6 ⟨rfl, hb⟩; have y0 := (hb.cell hgw3).trans z0; have y1 := (hb.cell hgw3).trans z1; have y2 := (hb.cell hgw3).trans z2; have y3 := (hb.cell hgw3).trans z3; have HBX := Aside0.mk hb; clear hb))
        all_goals go_wp2_with fail
        go_roundg (n - (i + 1))
        case measure => have := HJ.out; omega
        case rel =>
          have hb13 := HW.out.trans (HB3.out.mono HW.out.size)
          exact ⟨i + 1, by go_num, ⟨by omega, rfl⟩, ⟨hb13.trans (HBX.out.mono hb13.size)⟩⟩
      · obtain rfl : i = n := by omega
        obtain ⟨w5, rfl⟩ : ∃ w5, w5 = wr := ⟨_, rfl⟩
        have HB15 := Aside0.mk (HB1.out.trans (HW.out.mono HB1.out.size))
        clear hi
        obtain ⟨ks, hks⟩ : ∃ ks, Lx.groups (L.map Lx.kindOf) = ks := ⟨_, rfl⟩
        have HLR := Aside0.mk (HL1.out.below HW.out)
        have HTR := Aside0.mk (HT.out.below HW.out)
        have hsl : ∀ t ∈ L, t.t.size ≤ 20000 := fun t ht => by have := HSL.out t ht; omega
        have hc16 := condGroups_calls (.slice A i c) L w5 HTR.out (by have := HN.out; omega) hsl HLR.out.maxLen HLR.out.blanks (by have := HLR.out.size; omega)
        have hc17 := fun W (hT : Tks W (.slice A i c) L) => refGroups_calls (.slice A i c) L W hT (by have := HN.out; omega) hsl
        have hsm := Lx.groups_small 0 (L.map Lx.kindOf) (by rw [List.length_map]; have := HN.out; omega)
        rw [show Lx.groupsC 0 (L.map Lx.kindOf) = ks from hks] at hsm
        rw [hks] at hc16
        simp only [hks] at hc17
        obtain ⟨gs, E, at0⟩ := ks
        dsimp only at hc16 hc17 hsm
        obtain ⟨gn, hgn⟩ : ∃ gn, gs.length = gn := ⟨_, rfl⟩
        have HC16 := Aside0.mk hc16
        have HC17 := Aside0.mk hc17
        have HSM := Aside0.mk hsm
        have HGN := Aside0.mk hgn
        clear hlt hks hc16 hc17 hsm hgn hsl
        go_wp2_with (first | (go_at_call 16; (with_reducible refine HC16.out.mono ?_); rintro e w2 ⟨gv, rfl, hgrp, hb⟩; have HG2 := Aside0.mk hgrp; have HB2 := Aside0.mk hb; have hgv : ∃ A c, gv = .slice A gn c := (by obtain ⟨ls, e1, e2, e3⟩ := hgrp; rw [HGN.out] at e2; exact own_slice e2); obtain ⟨GA, GC, rfl⟩ := hgv; clear hgrp hb) | (go_at_call 17; (with_reducible refine (HC17.out w2 (HTR.out.below HB2.out)).mono ?_); rintro e w3 ⟨gw, rfl, hgrp, hb⟩; have HG3 := Aside0.mk hgrp; have HB3 := Aside0.mk hb; have hgw : ∃ A c, gw = .slice A gn c := (by obtain ⟨ls, e1, e2, e3⟩ := hgrp; rw [HGN.out] at e2; exact own_slice e2); obtain ⟨RA, RC, rfl⟩ := hgw; clear hgrp hb))
        go_loopg [16] gn (fun kq v16 W => ∃ j : Nat, v16 = .int .i64 j ∧ Aside0 (j ≤ gn ∧ kq = gn - j) ∧ Aside0 (Below w3.heap.size w3 W))
        case atStart => exact ⟨0, rfl, ⟨by omega, rfl⟩, ⟨Below.refl _ _⟩⟩
        case round =>
          obtain ⟨j, rfl, HJ2, HW2⟩ := hrel
          have hj := HJ2.out.1
          have hw0 := HB3.out.trans (HW2.out.mono HB3.out.size)
          have hgn5 : gn ≤ 100000 := by have := HSM.out.1; have := HGN.out; omega
          by_cases hlt : j < gn
          · obtain ⟨g, hg⟩ : ∃ g, gs[j]? = some g := ⟨_, List.getElem?_eq_getElem (by have := HGN.out; omega)⟩
            obtain ⟨gb, c', gl, cl, hgv, a0, a1, a2, a3, -, k1, k2, hgl, hgb, hat⟩ := HG2.out.at j g hg
            simp only [Value.slice.injEq] at hgv
            obtain ⟨rfl, -, rfl⟩ := hgv
            obtain ⟨rb, d', rl, rcl, hrv, b0, b1, b2, b3, -, m1, m2, hrl, hrb, hrt⟩ := HG3.out.at j g hg
            simp only [Value.slice.injEq] at hrv
            obtain ⟨rfl, -, rfl⟩ := hrv
            have a0 := (hw0.cell hgb).trans a0
            have a1 := (hw0.cell hgb).trans a1
            have a2 := (hw0.cell hgb).trans a2
            have a3 := (hw0.cell hgb).trans a3
            have b0 := (HW2.out.cell hrb).trans b0
            have b1 := (HW2.out.cell hrb).trans b1
            have b2 := (HW2.out.cell hrb).trans b2
            have b3 := (HW2.out.cell hrb).trans b3
            have hgw : gb < wr.heap.size := Nat.lt_of_lt_of_le hgb hw0.size
            have hrw : rb < wr.heap.size := Nat.lt_of_lt_of_le hrb HW2.out.size
            obtain ⟨gm, hgm⟩ : ∃ gm, g.lines.length = gm := ⟨_, rfl⟩
            have hi1 : Ints wr (.slice (some ⟨gl, 0, none⟩) gm cl) g.lines := ⟨_, _, by rw [hgm], k1, k2, .inr ⟨gl, 0, rfl, hat.below hw0 hgl, Nat.lt_of_lt_of_le hgl hw0.size⟩⟩
            have hi2 : Ints wr (.slice (some ⟨rl, 0, none⟩) gm rcl) g.lines := ⟨_, _, by rw [hgm], m1, m2, .inr ⟨rl, 0, rfl, hrt.below HW2.out hrl, Nat.lt_of_lt_of_le hrl HW2.out.size⟩⟩
            rw [hgm] at a0 b0
            have hl6 : g.lines.length ≤ 1000000 := by have := (HSM.out.2 g (List.mem_of_getElem? hg)).1; omega
            have HIC := Aside0.mk (ln_ints _ _ g.lines hl6 wr hi1 hi2)
            obtain ⟨br, hbr⟩ : ∃ br, g.br = br := ⟨_, rfl⟩
            obtain ⟨pr, hpr⟩ : ∃ pr, g.par = pr := ⟨_, rfl⟩
            obtain ⟨bc, hbc⟩ : ∃ bc, g.bch = bc := ⟨_, rfl⟩
            rw [hbr] at a1 b1
            rw [hpr] at a2 b2
            rw [hbc] at a3 b3
            have hj0 : (0 : Int) ≤ (j : Int) := Int.natCast_nonneg _
            have hjn : (j : Int) < (gn : Int) := by omega
            clear hg hgb hrb hgl hrl hat hrt k1 k2 m1 m2 hi1 hi2 hl6 hgm hbr hpr hbc hw0
            go_wp2_with fail
            go_quiet (first | (go_at_call 18; exact Calls.quiet_of (HIC.out _)))
            go_wp2_with fail
            go_roundg (gn - (j + 1))
            case measure => have := HJ2.out; omega
            case rel =>
              refine ⟨j + 1, by go_num, ⟨by omega, rfl⟩, ⟨HW2.out.trans ⟨rfl, rfl, rfl, Nat.le_refl _, fun _ _ => rfl⟩⟩⟩
          · obtain rfl : j = gn := by omega
            have hb2 := HB15.out.trans (HB2.out.mono HB15.out.size)
            have hb3 := hb2.trans (hw0.mono hb2.size)
            have HB4 := Aside0.mk hb3
            have HAW := Aside0.mk (hAW wr (HLD.out.below hb3))
            clear hlt hw0 hb2 hb3 hAW
            go_wp2_with (first | (go_at_call 19; (with_reducible refine HAW.out.mono ?_); rintro e w9 ⟨rfl, hb⟩; have HB9 := Aside0.mk (HB4.out.trans (hb.mono HB4.out.size)); clear hb))
            go_ret
            exact ⟨rfl, HB9.out⟩
end Go.Proofs.YtjnafjgonoficaaGreatDoor
namespace Go.Proofs.YtjnafjgonoficaaGreatDoor
open Go.ChangeShapes Go.WideShapes Go.ChangeAt Go.RowKit
set_option linter.unusedVariables false
set_option linter.unusedSimpArgs false
theorem own : ownKnob Tryz.prog.godebug = none := by kernel_rfl
def laidL : List (String × DataW Unit) := Rows.condLinesRow.laid
theorem caseD : Rows.laid_unicode_CaseRanges = Lib.caseData := Pinned.caseRanges_eq
theorem firstD : Rows.laid_unicode_utf8_first = Lib.firstData := Pinned.utf8First_eq
theorem acceptD : (Rows.laid_unicode_utf8_acceptRanges : DataW Unit) = Lib.acceptData := by kernel_rfl
theorem spaceD : (Rows.laid_strings_asciiSpace : DataW Unit) = Lib.tabData .u8 Lib.asciiSpaceTab := by kernel_rfl
theorem lays260 : Lays.n260 Tryz.prog Tryz.lays271_ren := { Tryz.lays271 with }
theorem lays274 : Lays.n274 Tryz.prog Tryz.lays159_ren := { Tryz.lays159 with }
theorem u8x : U8Extra Tryz.prog Tryz.lays271_ren := ⟨by kernel_rfl, by kernel_rfl, by kernel_rfl, by kernel_rfl, by kernel_rfl, by kernel_rfl, by kernel_rfl⟩
theorem casex : CaseExtra Tryz.prog Tryz.lays159_ren := ⟨by kernel_rfl, by kernel_rfl, by kernel_rfl, by kernel_rfl, by kernel_rfl, by kernel_rfl⟩
theorem cell_lt {w : World} {b o : Nat} {v : Value} (h : w.cell? ⟨b, o, none⟩ = some v) : b < w.heap.size := by
  unfold World.cell? at h
  cases hb : w.heap[b]? with
  | none => dsimp only at h; rw [hb] at h; cases h
  | some x => exact (Array.getElem?_eq_some_iff.1 hb).1
theorem star : "*" ++ "errors.errorString" = "*errors.errorString" := by decide
theorem rowErr (u : TypeId) (h : Tryz.prog.typeName? 3 u = some "*errors.errorString") : u = 238 :=
  typeName_ptr_named (nm := "errors.errorString") (by rw [star]; kernel_rfl) (by kernel_rfl) (by decide) u (by rw [star]; exact h)
theorem max_int (w : World) (h : w.ShapedOpen Tryz.prog) : ∃ m, w.cell? ⟨4, 0, none⟩ = some (.int .i64 m) :=
  cell_of_shapedOpen_int (t := 3) (zero := #[.int .i64 0]) h (of_decide_eq_true (by kernel_rfl)) (by kernel_rfl) rfl (by kernel_rfl) (by kernel_rfl) Tryz.underlying3
theorem tabs_of {W : World} (h : laidMet Tryz.prog laidL W) : Lib.Utf8Tabs 6 7 W :=
  utf8Tabs_of_reads lays260 u8x (Lib.laidMet.reads h (List.mem_of_getElem? (i := 9) (by rw [← firstD]; rfl))) (Lib.laidMet.reads h (List.mem_of_getElem? (i := 3) (by rw [← acceptD]; rfl)))
theorem case_of {W : World} (h : laidMet Tryz.prog laidL W) : Lib.CaseVar 5 Lib.caseA W :=
  caseVar_of_reads lays274 Tryz.lays159.t206 casex (Lib.laidMet.reads h (List.mem_of_getElem? (i := 8) (by rw [← caseD]; rfl)))
theorem space_of {W : World} (h : laidMet Tryz.prog laidL W) : Lib.TabIs Tryz.prog W "strings.asciiSpace" .u8 Lib.asciiSpaceTab := by
  have h7 : laidMet Tryz.prog (("strings.asciiSpace", Rows.laid_strings_asciiSpace) :: [("unicode.CaseRanges", Rows.laid_unicode_CaseRanges), ("unicode/utf8.first", Rows.laid_unicode_utf8_first)]) W := h.tail.tail.tail.tail.tail.tail.tail
  rw [spaceD] at h7
  exact Lib.tabIs_of_head (g := 0) (t := 185) (e := 5) (n := 256) (by kernel_rfl) (by kernel_rfl) (by kernel_rfl) Tryz.underlying5 (by kernel_rfl) (by kernel_rfl) h7
theorem errs_of {W : World} (h : laidMet Tryz.prog laidL W) : Errs W := by
  have h4 : laidMet Tryz.prog (("strconv.ErrRange", Rows.laid_strconv_ErrRange) :: _) W := h.tail.tail.tail.tail
  have h5 : laidMet Tryz.prog (("strconv.ErrSyntax", Rows.laid_strconv_ErrSyntax) :: _) W := h4.tail
  obtain ⟨a, s, hv, hc, -⟩ := laid_sentinel (g := 3) (ti := 151) h4 (by kernel_rfl) (by kernel_rfl) Tryz.underlying151 rowErr Tryz.underlying238 Tryz.underlying240 rfl rfl Tryz.underlying9 (by kernel_rfl) (by kernel_rfl)
  obtain ⟨a2, s2, hv2, hc2, -⟩ := laid_sentinel (g := 2) (ti := 151) h5 (by kernel_rfl) (by kernel_rfl) Tryz.underlying151 rowErr Tryz.underlying238 Tryz.underlying240 rfl rfl Tryz.underlying9 (by kernel_rfl) (by kernel_rfl)
  have e3 := World.var?_cell (by kernel_rfl : Tryz.prog.globalNamed "strconv.ErrRange" = some 3) hv 0
  have e2 := World.var?_cell (by kernel_rfl : Tryz.prog.globalNamed "strconv.ErrSyntax" = some 2) hv2 0
  exact ⟨cell_lt e3, ⟨_, e2, .inr ⟨_, _, rfl⟩⟩, _, e3, .inr ⟨_, _, rfl⟩⟩
theorem laid_of {W : World} (hsh : W.ShapedOpen Tryz.prog) (h : laidMetH Tryz.prog laidL W) : Laid W := by
  rw [MakeChecks.laidMetH_plain _ _ _ (by kernel_rfl)] at h
  have ht := tabs_of h
  exact ⟨max_int W hsh, space_of h, errs_of h, ht, case_of h, cell_lt (ht.2 0 (by decide)).1⟩
end Go.Proofs.YtjnafjgonoficaaGreatDoor
namespace Go.Proofs.YtjnafjgonoficaaGreatDoor
open Go.ChangeShapes Go.WideShapes Go.ChangeAt Go.RowKit Go.WideMaps Go.WideElems
set_option linter.unusedVariables false
set_option linter.unusedSimpArgs false
/-- The plain wrap of a law that lists variables, the world's shape kept. -/
theorem returns_and_shaped {H : Type} {enc : TypeId × Value → H} {a : Assume} {C : Checked} {os : Os} {f : FuncId} {fn : Func} {s : ChangeSpec} {conds : List PathCond} {apart fresh handsOn again : Bool} {X : World → Array Value → Prop}
    (hX : ∀ (w w' : World) (args : Array Value), w.heap = w'.heap → X w args → X w' args)
    (own : ownKnob C.prog.godebug = none) (started : os.Started) (noInit : C.prog.inits.idxOf? f = none) (hfn : C.prog.funcs[f]? = some fn)
    (witness : ∃ (w : World) (tape : Tape) (i : Input), w.os = os ∧ (w.forCall tape i).Shaped C.prog ∧ i.vars = [] ∧ Input.okWide C.prog (w.forCall tape i) .any w.heap.size f i ∧
      ((s.pre enc C.prog fn conds apart (w.forCall tape i).memory i.args ∧ X (w.forCall tape i).memory i.args) ∧ sizedMet enc C.prog fn (OpenSpec.ofChange s) apart (w.forCall tape i).memory i.args) ∧ a.holds C.prog (lone (Frame.enter C.prog f i.args .normal) [] (w.forCall tape i)))
    (contract : ∀ (W : World) (base : Nat) (args : Array Value) (ds gs : List (DataW H)) (before : List MemPlace),
      (∀ (j : Nat) t v, fn.params[j]? = some t → args[j]? = some v → Value.okWide C.prog W .any base t v) →
      DataW.Whole enc C.prog fn.params.toList s.vars apart W args.toList ds gs before →
      (DataW.weightsEach C.prog (fn.params.toList ++ s.plain.varTypes C.prog) (ds ++ gs)).all (· ≤ reachBytes) = true → X W args → W.ShapedOpen C.prog →
      Calls C.prog f args W fun e W' => ∃ v, e = .returned v ∧ s.post enc C.prog fn apart fresh handsOn again W args v W') :
    ReturnsInHanded a C os f .any (fun w args => (s.pre enc C.prog fn conds apart w args ∧ X w args) ∧ sizedMet enc C.prog fn (OpenSpec.ofChange s) apart w args) (s.post enc C.prog fn apart fresh handsOn again) := by
  refine returnsInHanded_of_calls own started noInit witness ?_
  intro w tape i _ hsh _ hok hpre hholds
  obtain ⟨_, _, _, fn', hfn', _, _, _, _, hval⟩ := hok
  have e : fn' = fn := Option.some.inj (hfn'.symm.trans hfn)
  subst e
  obtain ⟨⟨⟨ds, gs, before, hw, hc⟩, hx⟩, hz⟩ := hpre
  have hw' := DataW.Whole.of_heap (w' := w.forCall tape i) (by rfl) hw
  refine (contract (w.forCall tape i) w.heap.size i.args ds gs before hval hw' (hz.weights hw) (hX _ _ _ (by rfl) hx) hsh).mono fun e W' ⟨v, he, hp⟩ => ?_
  subst he
  exact ChangeSpec.post_blind hp
/-- The library's variables, laid: the start of the shown run. -/
noncomputable def startW (os : Os) : World := World.laidAll Tryz.prog os laidL
theorem start_met (os : Os) (args : Array Value) : laidMetH Tryz.prog laidL ((startW os).forCall (fun _ _ => 0) ⟨#[], args, []⟩).memory := by
  rw [MakeChecks.laidMetH_plain _ _ _ (by kernel_rfl)]
  exact laidMet_laidAll _ (by kernel_rfl) (by kernel_rfl)
theorem start_shaped (os : Os) (args : Array Value) : ((startW os).forCall (fun _ _ => 0) ⟨#[], args, []⟩).Shaped Tryz.prog := World.shaped_of_ZipB (by kernel_rfl) (by kernel_rfl)
end Go.Proofs.YtjnafjgonoficaaGreatDoor
