/-
  What the reference's asked comes to: the names that a directive's condition asks for. Conditions: the token is short.
  What the reference's Names gathers. Conditions: the tokens lie in memory; they are short.
  What the reference's Has and Sorted come to: a strictly ordered row of the same texts. Conditions: the row is short.
  A row of texts, sorted and compacted, is the one strictly ordered row of the same texts. No program in sight. Conditions: none.
  The names that the conditions ask for: by the groups, and by the tokens, are the same. No program in sight. Conditions: the groups are no error.
-/
import Derived.Sort.Walk0
import Derived.Laws.OwnMore
import Derived.Test.YtjnafjgonoficaaGreatDoorF21
import Derived.Test.YtjnafjgonoficaaGreatDoorF19
import Derived.Test.YtjnafjgonoficaaGreatDoorF20
import Derived.Test.YtjnafjgonoficaaGreatDoorF18
set_option linter.unusedVariables false
set_option linter.unusedSimpArgs false
namespace Go.Proofs.YtjnafjgonoficaaGreatDoor
open Go.RowKit Go.Proofs.YtjnafjgonoficaaGreatDoorW.PrintWords
namespace Lx
def askR (t:Tok):List ByteArray :=
  if isExpr (kindOf t)=true then namesW ((wdOf t).drop 1)
  else if isDfn (kindOf t)=true then (match wdOf t with | _ :: u :: _=>if u.k=1 then [u.t] else [] | _=>[])
  else []
end Lx
set_option maxRecDepth 100000 in
set_option maxHeartbeats 8000000 in
theorem asked_none (t:Lx.Tok) (w:World) (hts:t.t.size ≤ 20000) (hE:Lx.isExpr (Lx.kindOf t)=false) (hD:Lx.isDfn (Lx.kindOf t)=false) :
    Calls Tryz.prog 59 #[tokV t] w fun e w'=>e=.returned (.slice none 0 0)∧Below w.heap.size w w':=by
  have hB0:Below w.heap.size w (w.alloc (.cells #[.int .i64 t.k,.string t.b,.string t.t,.int .i64 t.a] 29)):=(Below.refl _ _).alloc (Nat.le_refl _) _
  have HB0:=mkA hB0
  have hx0:=blk_new w (.cells #[.int .i64 t.k,.string t.b,.string t.t,.int .i64 t.a] 29)
  have e0:(w.alloc (.cells #[.int .i64 t.k,.string t.b,.string t.t,.int .i64 t.a] 29)).cell? ⟨w.heap.size,0,none⟩=some (.int .i64 t.k):=by rw [blk_cell hx0];rfl
  have e1:(w.alloc (.cells #[.int .i64 t.k,.string t.b,.string t.t,.int .i64 t.a] 29)).cell? ⟨w.heap.size,1,none⟩=some (.string t.b):=by rw [blk_cell hx0];rfl
  have e2:(w.alloc (.cells #[.int .i64 t.k,.string t.b,.string t.t,.int .i64 t.a] 29)).cell? ⟨w.heap.size,2,none⟩=some (.string t.t):=by rw [blk_cell hx0];rfl
  have e3:(w.alloc (.cells #[.int .i64 t.k,.string t.b,.string t.t,.int .i64 t.a] 29)).cell? ⟨w.heap.size,3,none⟩=some (.int .i64 t.a):=by rw [blk_cell hx0];rfl
  have hwd:∀ W,Below w.heap.size w W → Calls Tryz.prog 12 #[tokV t] W fun e w' => ∃ v,e=.returned (.tuple #[v,.int .i64 (if Lx.isDir t=true then 0 else 3)])∧w'.ownsRow W.heap.size 29 4 v (Lx.wdOf t).length (tokCells (Lx.wdOf t))∧Below W.heap.size W w':=fun W hb=>refWords_calls t W hts
  have hkd:∀ W,Below w.heap.size w W → Calls Tryz.prog 14 #[tokV t] W fun e w'=>e=.returned (.string (Lx.kindOf t))∧Below W.heap.size W w':=fun W hb=>refKind_calls t W hts
  unfold tokV at hwd hkd ⊢
  obtain ⟨er,her⟩:∃ er:Int,(if Lx.isDir t=true then 0 else 3)=er:=⟨_,rfl⟩
  rw [her] at hwd
  have hNl:=Lx.wdOf_len t
  obtain ⟨N,hN⟩:∃ N,(Lx.wdOf t).length=N:=⟨_,rfl⟩
  rw [hN] at hNl
  obtain ⟨K,hK⟩:∃ K,Lx.kindOf t=K:=⟨_,rfl⟩
  obtain ⟨ws,hws⟩:∃ ws,Lx.wdOf t=ws:=⟨_,rfl⟩
  rw [hK] at hkd hE hD
  rw [hws] at hwd hN
  have HWD:=mkA hwd
  have HKD:=mkA hkd
  have HWN:=mkA hN
  have hE1:(K.toList == [105,102])=false:=by unfold Lx.isExpr at hE;rw [Bool.or_eq_false_iff] at hE;exact hE.1
  have hE2:(K.toList == [101,108,105,102])=false:=by unfold Lx.isExpr at hE;rw [Bool.or_eq_false_iff] at hE;exact hE.2
  have hD1:(K.toList == [105,102,100,101,102])=false:=by unfold Lx.isDfn at hD;rw [Bool.or_eq_false_iff] at hD;exact hD.1
  have hD2:(K.toList == [105,102,110,100,101,102])=false:=by unfold Lx.isDfn at hD;rw [Bool.or_eq_false_iff] at hD;exact hD.2
  clear hB0 hx0 hwd hkd her hK hws hN hE hD hts
  go_enter Tryz.func59,Tryz.ntmps59
  go_wp2_with (first | (go_at_call 12;(refine (HWD.out _ HB0.out).mono ?_);rintro e w2 ⟨v2,rfl,hown2,hb2⟩;have hown2:=own_cast hown2 HWN.out;(obtain ⟨A2,cp2,rfl⟩:=own_slice hown2);have HO2:=mkA hown2;have HB2:=mkA (HB0.out.trans (hb2.mono HB0.out.size));have k0:=(hb2.cell (p:=⟨w.heap.size,0,none⟩) (show w.heap.size < _ by simp)).trans e0;have k1:=(hb2.cell (p:=⟨w.heap.size,1,none⟩) (show w.heap.size < _ by simp)).trans e1;have k2:=(hb2.cell (p:=⟨w.heap.size,2,none⟩) (show w.heap.size < _ by simp)).trans e2;have k3:=(hb2.cell (p:=⟨w.heap.size,3,none⟩) (show w.heap.size < _ by simp)).trans e3;have hwl2:w.heap.size < w2.heap.size:=Nat.lt_of_lt_of_le (by simp) hb2.size;clear hown2 hb2) | (go_at_call 14;(refine (HKD.out _ HB2.out).mono ?_);rintro e w3 ⟨rfl,hb3⟩;have HO3:=mkA (own_kept_no HO2.out (grown_below (World.grownBy.refl _ none) hb3));have HB3:=mkA (HB2.out.trans (hb3.mono HB2.out.size));clear hb3))
  go_ret
  exact ⟨rfl,HB3.out⟩
set_option maxRecDepth 100000 in
set_option maxHeartbeats 8000000 in
theorem asked_dfn (t:Lx.Tok) (w:World) (hts:t.t.size ≤ 20000) (hE:Lx.isExpr (Lx.kindOf t)=false) (hDf:Lx.isDfn (Lx.kindOf t)=true) :
    Calls Tryz.prog 59 #[tokV t] w fun e w' => ∃ v,e=.returned v∧w'.ownsRow w.heap.size 9 1 v (Lx.askR t).length (strCells (Lx.askR t))∧Below w.heap.size w w':=by
  have hak:Lx.askR t=(match Lx.wdOf t with | _ :: u :: _=>if u.k=1 then [u.t] else [] | _=>[]):=by
    unfold Lx.askR
    rw [hE,if_neg Bool.false_ne_true,if_pos hDf]
  rw [hak]
  obtain ⟨-,w0,r,hw,-⟩:=Lx.kind_first t (.inr hDf)
  have hB0:Below w.heap.size w (w.alloc (.cells #[.int .i64 t.k,.string t.b,.string t.t,.int .i64 t.a] 29)):=(Below.refl _ _).alloc (Nat.le_refl _) _
  have HB0:=mkA hB0
  have hx0:=blk_new w (.cells #[.int .i64 t.k,.string t.b,.string t.t,.int .i64 t.a] 29)
  have e0:(w.alloc (.cells #[.int .i64 t.k,.string t.b,.string t.t,.int .i64 t.a] 29)).cell? ⟨w.heap.size,0,none⟩=some (.int .i64 t.k):=by rw [blk_cell hx0];rfl
  have e1:(w.alloc (.cells #[.int .i64 t.k,.string t.b,.string t.t,.int .i64 t.a] 29)).cell? ⟨w.heap.size,1,none⟩=some (.string t.b):=by rw [blk_cell hx0];rfl
  have e2:(w.alloc (.cells #[.int .i64 t.k,.string t.b,.string t.t,.int .i64 t.a] 29)).cell? ⟨w.heap.size,2,none⟩=some (.string t.t):=by rw [blk_cell hx0];rfl
  have e3:(w.alloc (.cells #[.int .i64 t.k,.string t.b,.string t.t,.int .i64 t.a] 29)).cell? ⟨w.heap.size,3,none⟩=some (.int .i64 t.a):=by rw [blk_cell hx0];rfl
  have hwd:∀ W,Below w.heap.size w W → Calls Tryz.prog 12 #[tokV t] W fun e w' => ∃ v,e=.returned (.tuple #[v,.int .i64 (if Lx.isDir t=true then 0 else 3)])∧w'.ownsRow W.heap.size 29 4 v (Lx.wdOf t).length (tokCells (Lx.wdOf t))∧Below W.heap.size W w':=fun W hb=>refWords_calls t W hts
  have hkd:∀ W,Below w.heap.size w W → Calls Tryz.prog 14 #[tokV t] W fun e w'=>e=.returned (.string (Lx.kindOf t))∧Below W.heap.size W w':=fun W hb=>refKind_calls t W hts
  unfold tokV at hwd hkd ⊢
  obtain ⟨er,her⟩:∃ er:Int,(if Lx.isDir t=true then 0 else 3)=er:=⟨_,rfl⟩
  rw [her] at hwd
  have hNl:=Lx.wdOf_len t
  obtain ⟨N,hN⟩:∃ N,(Lx.wdOf t).length=N:=⟨_,rfl⟩
  rw [hN] at hNl
  obtain ⟨K,hK⟩:∃ K,Lx.kindOf t=K:=⟨_,rfl⟩
  obtain ⟨ws,hws⟩:∃ ws,Lx.wdOf t=ws:=⟨_,rfl⟩
  rw [hK] at hkd hE hDf
  rw [hws] at hwd hN hw ⊢
  have HWD:=mkA hwd
  have HKD:=mkA hkd
  have HWN:=mkA hN
  have hE1:(K.toList == [105,102])=false:=by unfold Lx.isExpr at hE;rw [Bool.or_eq_false_iff] at hE;exact hE.1
  have hE2:(K.toList == [101,108,105,102])=false:=by unfold Lx.isExpr at hE;rw [Bool.or_eq_false_iff] at hE;exact hE.2
  obtain ⟨q,hq⟩:∃ q,(K.toList == [105,102,100,101,102])=q:=⟨_,rfl⟩
  have hq2:q=false → (K.toList == [105,102,110,100,101,102])=true:=by
    intro e;subst e;unfold Lx.isDfn at hDf;rw [hq,Bool.false_or] at hDf;exact hDf
  clear hB0 hx0 hwd hkd her hak hK hws hE hDf hts
  cases r with
  | nil =>
    subst hw
    have hu0:[w0][0]? = some w0:=rfl
    have HU:=mkA hu0
    obtain rfl:N=1:=by rw [← hN];rfl
    clear hu0 hN
    cases q
    · have hq2:=hq2 rfl
      go_enter Tryz.func59,Tryz.ntmps59
      go_wp2_with (first | (go_at_call 12;(refine (HWD.out _ HB0.out).mono ?_);rintro e w2 ⟨v2,rfl,hown2,hb2⟩;have hown2:=own_cast hown2 HWN.out;(obtain ⟨g2,cp2,rfl,hcp2,hg2b,hg2l,o0,o1,o2,o3⟩:=own_at hown2 HWN.out HU.out);have HO2:=mkA hown2;have HB2:=mkA (HB0.out.trans (hb2.mono HB0.out.size));have k0:=(hb2.cell (p:=⟨w.heap.size,0,none⟩) (show w.heap.size < _ by simp)).trans e0;have k1:=(hb2.cell (p:=⟨w.heap.size,1,none⟩) (show w.heap.size < _ by simp)).trans e1;have k2:=(hb2.cell (p:=⟨w.heap.size,2,none⟩) (show w.heap.size < _ by simp)).trans e2;have k3:=(hb2.cell (p:=⟨w.heap.size,3,none⟩) (show w.heap.size < _ by simp)).trans e3;have hwl2:w.heap.size < w2.heap.size:=Nat.lt_of_lt_of_le (by simp) hb2.size;simp only [Nat.one_mul,Nat.zero_mul,Nat.zero_add] at o0 o1 o2 o3;clear hown2 hb2) | (go_at_call 14;(refine (HKD.out _ HB2.out).mono ?_);rintro e w3 ⟨rfl,hb3⟩;have c0:=(hb3.cell hg2l).trans o0;have c1:=(hb3.cell hg2l).trans o1;have c2:=(hb3.cell hg2l).trans o2;have c3:=(hb3.cell hg2l).trans o3;have hg3l:g2 < w3.heap.size:=Nat.lt_of_lt_of_le hg2l hb3.size;have HB3:=mkA (HB2.out.trans (hb3.mono HB2.out.size));clear hb3 o0 o1 o2 o3))
      go_ret
      exact ⟨_,rfl,own_nil _ _ _ _,HB3.out⟩
    · clear hq2
      go_enter Tryz.func59,Tryz.ntmps59
      go_wp2_with (first | (go_at_call 12;(refine (HWD.out _ HB0.out).mono ?_);rintro e w2 ⟨v2,rfl,hown2,hb2⟩;have hown2:=own_cast hown2 HWN.out;(obtain ⟨g2,cp2,rfl,hcp2,hg2b,hg2l,o0,o1,o2,o3⟩:=own_at hown2 HWN.out HU.out);have HO2:=mkA hown2;have HB2:=mkA (HB0.out.trans (hb2.mono HB0.out.size));have k0:=(hb2.cell (p:=⟨w.heap.size,0,none⟩) (show w.heap.size < _ by simp)).trans e0;have k1:=(hb2.cell (p:=⟨w.heap.size,1,none⟩) (show w.heap.size < _ by simp)).trans e1;have k2:=(hb2.cell (p:=⟨w.heap.size,2,none⟩) (show w.heap.size < _ by simp)).trans e2;have k3:=(hb2.cell (p:=⟨w.heap.size,3,none⟩) (show w.heap.size < _ by simp)).trans e3;have hwl2:w.heap.size < w2.heap.size:=Nat.lt_of_lt_of_le (by simp) hb2.size;simp only [Nat.one_mul,Nat.zero_mul,Nat.zero_add] at o0 o1 o2 o3;clear hown2 hb2) | (go_at_call 14;(refine (HKD.out _ HB2.out).mono ?_);rintro e w3 ⟨rfl,hb3⟩;have c0:=(hb3.cell hg2l).trans o0;have c1:=(hb3.cell hg2l).trans o1;have c2:=(hb3.cell hg2l).trans o2;have c3:=(hb3.cell hg2l).trans o3;have hg3l:g2 < w3.heap.size:=Nat.lt_of_lt_of_le hg2l hb3.size;have HB3:=mkA (HB2.out.trans (hb3.mono HB2.out.size));clear hb3 o0 o1 o2 o3))
      go_ret
      exact ⟨_,rfl,own_nil _ _ _ _,HB3.out⟩
  | cons u r =>
    subst hw
    have hu0:(w0 :: u :: r)[1]? = some u:=rfl
    have HU:=mkA hu0
    have h1N:(1:Int) < (N:Int):=by rw [← hN];simp only [List.length_cons];omega
    have h1N2:1 < N:=by omega
    show Calls _ _ _ _ fun e w' => ∃ v,e=.returned v∧w'.ownsRow w.heap.size 9 1 v (if u.k=1 then [u.t] else []).length (strCells (if u.k=1 then [u.t] else []))∧_
    obtain ⟨uk,huk⟩:∃ uk,(u.k == 1)=uk:=⟨_,rfl⟩
    clear hu0 hN
    cases uk
    · rw [if_neg (beq_eq_false_iff_ne.mp huk)]
      cases q
      · have hq2:=hq2 rfl
        go_enter Tryz.func59,Tryz.ntmps59
        go_wp2_with (first | (go_at_call 12;(refine (HWD.out _ HB0.out).mono ?_);rintro e w2 ⟨v2,rfl,hown2,hb2⟩;have hown2:=own_cast hown2 HWN.out;(obtain ⟨g2,cp2,rfl,hcp2,hg2b,hg2l,o0,o1,o2,o3⟩:=own_at hown2 HWN.out HU.out);have HO2:=mkA hown2;have HB2:=mkA (HB0.out.trans (hb2.mono HB0.out.size));have k0:=(hb2.cell (p:=⟨w.heap.size,0,none⟩) (show w.heap.size < _ by simp)).trans e0;have k1:=(hb2.cell (p:=⟨w.heap.size,1,none⟩) (show w.heap.size < _ by simp)).trans e1;have k2:=(hb2.cell (p:=⟨w.heap.size,2,none⟩) (show w.heap.size < _ by simp)).trans e2;have k3:=(hb2.cell (p:=⟨w.heap.size,3,none⟩) (show w.heap.size < _ by simp)).trans e3;have hwl2:w.heap.size < w2.heap.size:=Nat.lt_of_lt_of_le (by simp) hb2.size;simp only [Nat.one_mul,Nat.zero_mul,Nat.zero_add] at o0 o1 o2 o3;clear hown2 hb2) | (go_at_call 14;(refine (HKD.out _ HB2.out).mono ?_);rintro e w3 ⟨rfl,hb3⟩;have c0:=(hb3.cell hg2l).trans o0;have c1:=(hb3.cell hg2l).trans o1;have c2:=(hb3.cell hg2l).trans o2;have c3:=(hb3.cell hg2l).trans o3;have hg3l:g2 < w3.heap.size:=Nat.lt_of_lt_of_le hg2l hb3.size;have HB3:=mkA (HB2.out.trans (hb3.mono HB2.out.size));clear hb3 o0 o1 o2 o3))
        go_ret
        exact ⟨_,rfl,own_nil _ _ _ _,HB3.out⟩
      · clear hq2
        go_enter Tryz.func59,Tryz.ntmps59
        go_wp2_with (first | (go_at_call 12;(refine (HWD.out _ HB0.out).mono ?_);rintro e w2 ⟨v2,rfl,hown2,hb2⟩;have hown2:=own_cast hown2 HWN.out;(obtain ⟨g2,cp2,rfl,hcp2,hg2b,hg2l,o0,o1,o2,o3⟩:=own_at hown2 HWN.out HU.out);have HO2:=mkA hown2;have HB2:=mkA (HB0.out.trans (hb2.mono HB0.out.size));have k0:=(hb2.cell (p:=⟨w.heap.size,0,none⟩) (show w.heap.size < _ by simp)).trans e0;have k1:=(hb2.cell (p:=⟨w.heap.size,1,none⟩) (show w.heap.size < _ by simp)).trans e1;have k2:=(hb2.cell (p:=⟨w.heap.size,2,none⟩) (show w.heap.size < _ by simp)).trans e2;have k3:=(hb2.cell (p:=⟨w.heap.size,3,none⟩) (show w.heap.size < _ by simp)).trans e3;have hwl2:w.heap.size < w2.heap.size:=Nat.lt_of_lt_of_le (by simp) hb2.size;simp only [Nat.one_mul,Nat.zero_mul,Nat.zero_add] at o0 o1 o2 o3;clear hown2 hb2) | (go_at_call 14;(refine (HKD.out _ HB2.out).mono ?_);rintro e w3 ⟨rfl,hb3⟩;have c0:=(hb3.cell hg2l).trans o0;have c1:=(hb3.cell hg2l).trans o1;have c2:=(hb3.cell hg2l).trans o2;have c3:=(hb3.cell hg2l).trans o3;have hg3l:g2 < w3.heap.size:=Nat.lt_of_lt_of_le hg2l hb3.size;have HB3:=mkA (HB2.out.trans (hb3.mono HB2.out.size));clear hb3 o0 o1 o2 o3))
        go_ret
        exact ⟨_,rfl,own_nil _ _ _ _,HB3.out⟩
    · rw [if_pos (beq_iff_eq.mp huk)]
      have h63:decide ((1:Int) < (N:Int))=true:=decide_eq_true h1N
      cases q
      · have hq2:=hq2 rfl
        go_enter Tryz.func59,Tryz.ntmps59
        go_wp2_with (first | (go_at_call 12;(refine (HWD.out _ HB0.out).mono ?_);rintro e w2 ⟨v2,rfl,hown2,hb2⟩;have hown2:=own_cast hown2 HWN.out;(obtain ⟨g2,cp2,rfl,hcp2,hg2b,hg2l,o0,o1,o2,o3⟩:=own_at hown2 HWN.out HU.out);have HO2:=mkA hown2;have HB2:=mkA (HB0.out.trans (hb2.mono HB0.out.size));have k0:=(hb2.cell (p:=⟨w.heap.size,0,none⟩) (show w.heap.size < _ by simp)).trans e0;have k1:=(hb2.cell (p:=⟨w.heap.size,1,none⟩) (show w.heap.size < _ by simp)).trans e1;have k2:=(hb2.cell (p:=⟨w.heap.size,2,none⟩) (show w.heap.size < _ by simp)).trans e2;have k3:=(hb2.cell (p:=⟨w.heap.size,3,none⟩) (show w.heap.size < _ by simp)).trans e3;have hwl2:w.heap.size < w2.heap.size:=Nat.lt_of_lt_of_le (by simp) hb2.size;simp only [Nat.one_mul,Nat.zero_mul,Nat.zero_add] at o0 o1 o2 o3;clear hown2 hb2) | (go_at_call 14;(refine (HKD.out _ HB2.out).mono ?_);rintro e w3 ⟨rfl,hb3⟩;have c0:=(hb3.cell hg2l).trans o0;have c1:=(hb3.cell hg2l).trans o1;have c2:=(hb3.cell hg2l).trans o2;have c3:=(hb3.cell hg2l).trans o3;have hg3l:g2 < w3.heap.size:=Nat.lt_of_lt_of_le hg2l hb3.size;have HB3:=mkA (HB2.out.trans (hb3.mono HB2.out.size));clear hb3 o0 o1 o2 o3) | (at_builtin;refine print_append_cells (w0:=w3) (W:=w3) w3.heap.size rfl (.tmp 58) (.tmp 63) 62 9 (.string ⟨#[]⟩) 1 16 rfl Tryz.underlying62 info9 rfl (by decide) (by decide) (.slice none 0 0) 0 [] [.string u.t] (by rfl) (by simp [Act.eval]) rfl (by simp [Value.oneCell']) (own_nil _ _ _ _) (Below.refl _ _) (Nat.le_refl _) (by omega) ?_;intro v6 w6 hv6 hb6 hg6 hat6;have HV6:=mkA hv6;have HB6:=mkA hb6;clear hv6 hb6 hg6 hat6))
        go_ret
        refine ⟨_,rfl,?_,HB3.out.trans (HB6.out.mono HB3.out.size)⟩
        have h5:=HV6.out
        refine ⟨h5.1,?_⟩
        rcases h5.2 with h | ⟨g,cap,cur,h1,h2,h3⟩
        · exact .inl h
        · exact .inr ⟨g,cap,cur,h1,Nat.le_trans HB3.out.size h2,h3⟩
      · clear hq2
        go_enter Tryz.func59,Tryz.ntmps59
        go_wp2_with (first | (go_at_call 12;(refine (HWD.out _ HB0.out).mono ?_);rintro e w2 ⟨v2,rfl,hown2,hb2⟩;have hown2:=own_cast hown2 HWN.out;(obtain ⟨g2,cp2,rfl,hcp2,hg2b,hg2l,o0,o1,o2,o3⟩:=own_at hown2 HWN.out HU.out);have HO2:=mkA hown2;have HB2:=mkA (HB0.out.trans (hb2.mono HB0.out.size));have k0:=(hb2.cell (p:=⟨w.heap.size,0,none⟩) (show w.heap.size < _ by simp)).trans e0;have k1:=(hb2.cell (p:=⟨w.heap.size,1,none⟩) (show w.heap.size < _ by simp)).trans e1;have k2:=(hb2.cell (p:=⟨w.heap.size,2,none⟩) (show w.heap.size < _ by simp)).trans e2;have k3:=(hb2.cell (p:=⟨w.heap.size,3,none⟩) (show w.heap.size < _ by simp)).trans e3;have hwl2:w.heap.size < w2.heap.size:=Nat.lt_of_lt_of_le (by simp) hb2.size;simp only [Nat.one_mul,Nat.zero_mul,Nat.zero_add] at o0 o1 o2 o3;clear hown2 hb2) | (go_at_call 14;(refine (HKD.out _ HB2.out).mono ?_);rintro e w3 ⟨rfl,hb3⟩;have c0:=(hb3.cell hg2l).trans o0;have c1:=(hb3.cell hg2l).trans o1;have c2:=(hb3.cell hg2l).trans o2;have c3:=(hb3.cell hg2l).trans o3;have hg3l:g2 < w3.heap.size:=Nat.lt_of_lt_of_le hg2l hb3.size;have HB3:=mkA (HB2.out.trans (hb3.mono HB2.out.size));clear hb3 o0 o1 o2 o3) | (at_builtin;refine print_append_cells (w0:=w3) (W:=w3) w3.heap.size rfl (.tmp 58) (.tmp 63) 62 9 (.string ⟨#[]⟩) 1 16 rfl Tryz.underlying62 info9 rfl (by decide) (by decide) (.slice none 0 0) 0 [] [.string u.t] (by rfl) (by simp [Act.eval]) rfl (by simp [Value.oneCell']) (own_nil _ _ _ _) (Below.refl _ _) (Nat.le_refl _) (by omega) ?_;intro v6 w6 hv6 hb6 hg6 hat6;have HV6:=mkA hv6;have HB6:=mkA hb6;clear hv6 hb6 hg6 hat6))
        go_ret
        refine ⟨_,rfl,?_,HB3.out.trans (HB6.out.mono HB3.out.size)⟩
        have h5:=HV6.out
        refine ⟨h5.1,?_⟩
        rcases h5.2 with h | ⟨g,cap,cur,h1,h2,h3⟩
        · exact .inl h
        · exact .inr ⟨g,cap,cur,h1,Nat.le_trans HB3.out.size h2,h3⟩
set_option maxRecDepth 100000 in
set_option maxHeartbeats 8000000 in
theorem asked_expr (t:Lx.Tok) (w:World) (hts:t.t.size ≤ 20000) (hE:Lx.isExpr (Lx.kindOf t)=true) :
    Calls Tryz.prog 59 #[tokV t] w fun e w' => ∃ v,e=.returned v∧w'.ownsRow w.heap.size 9 1 v (Lx.askR t).length (strCells (Lx.askR t))∧Below w.heap.size w w':=by
  have hak:Lx.askR t=Lx.namesW ((Lx.wdOf t).drop 1):=by
    unfold Lx.askR
    rw [if_pos hE]
  rw [hak]
  obtain ⟨w0,r,p,hw,-,-,-⟩:=Lx.expr_words t hE
  have hB0:Below w.heap.size w (w.alloc (.cells #[.int .i64 t.k,.string t.b,.string t.t,.int .i64 t.a] 29)):=(Below.refl _ _).alloc (Nat.le_refl _) _
  have HB0:=mkA hB0
  have hx0:=blk_new w (.cells #[.int .i64 t.k,.string t.b,.string t.t,.int .i64 t.a] 29)
  have e0:(w.alloc (.cells #[.int .i64 t.k,.string t.b,.string t.t,.int .i64 t.a] 29)).cell? ⟨w.heap.size,0,none⟩=some (.int .i64 t.k):=by rw [blk_cell hx0];rfl
  have e1:(w.alloc (.cells #[.int .i64 t.k,.string t.b,.string t.t,.int .i64 t.a] 29)).cell? ⟨w.heap.size,1,none⟩=some (.string t.b):=by rw [blk_cell hx0];rfl
  have e2:(w.alloc (.cells #[.int .i64 t.k,.string t.b,.string t.t,.int .i64 t.a] 29)).cell? ⟨w.heap.size,2,none⟩=some (.string t.t):=by rw [blk_cell hx0];rfl
  have e3:(w.alloc (.cells #[.int .i64 t.k,.string t.b,.string t.t,.int .i64 t.a] 29)).cell? ⟨w.heap.size,3,none⟩=some (.int .i64 t.a):=by rw [blk_cell hx0];rfl
  have hwd:∀ W,Below w.heap.size w W → Calls Tryz.prog 12 #[tokV t] W fun e w' => ∃ v,e=.returned (.tuple #[v,.int .i64 (if Lx.isDir t=true then 0 else 3)])∧w'.ownsRow W.heap.size 29 4 v (Lx.wdOf t).length (tokCells (Lx.wdOf t))∧Below W.heap.size W w':=fun W hb=>refWords_calls t W hts
  have hkd:∀ W,Below w.heap.size w W → Calls Tryz.prog 14 #[tokV t] W fun e w'=>e=.returned (.string (Lx.kindOf t))∧Below W.heap.size W w':=fun W hb=>refKind_calls t W hts
  unfold tokV at hwd hkd ⊢
  obtain ⟨er,her⟩:∃ er:Int,(if Lx.isDir t=true then 0 else 3)=er:=⟨_,rfl⟩
  rw [her] at hwd
  have hNl:=Lx.wdOf_len t
  obtain ⟨N,hN⟩:∃ N,(Lx.wdOf t).length=N:=⟨_,rfl⟩
  rw [hN] at hNl
  obtain ⟨K,hK⟩:∃ K,Lx.kindOf t=K:=⟨_,rfl⟩
  obtain ⟨ws,hws⟩:∃ ws,Lx.wdOf t=ws:=⟨_,rfl⟩
  rw [hK] at hkd hE
  rw [hws] at hwd hN hw ⊢
  have HWD:=mkA hwd
  have HKD:=mkA hkd
  have HWN:=mkA hN
  have HWS:=mkA hw
  have hu0:ws[0]? = some w0:=by rw [hw];rfl
  have HU:=mkA hu0
  have hN5:N ≤ 20001:=by omega
  have hN1:1 ≤ N:=by rw [← hN,hw];simp
  obtain ⟨qe,hqe⟩:∃ qe,(K.toList == [105,102])=qe:=⟨_,rfl⟩
  have hqe2:qe=false → (K.toList == [101,108,105,102])=true:=by
    intro e;subst e;unfold Lx.isExpr at hE;rw [hqe,Bool.false_or] at hE;exact hE
  clear hB0 hx0 hwd hkd her hak hK hws hE hts hN hw hu0
  cases qe
  · have hqe2:=hqe2 rfl
    go_enter Tryz.func59,Tryz.ntmps59
    go_wp2_with (first | (go_at_call 12;(refine (HWD.out _ HB0.out).mono ?_);rintro e w2 ⟨v2,rfl,hown2,hb2⟩;have hown2:=own_cast hown2 HWN.out;(obtain ⟨g2,cp2,rfl,hcp2,hg2b,hg2l,o0,o1,o2,o3⟩:=own_at hown2 HWN.out HU.out);have HO2:=mkA hown2;have HB2:=mkA (HB0.out.trans (hb2.mono HB0.out.size));have k0:=(hb2.cell (p:=⟨w.heap.size,0,none⟩) (show w.heap.size < _ by simp)).trans e0;have k1:=(hb2.cell (p:=⟨w.heap.size,1,none⟩) (show w.heap.size < _ by simp)).trans e1;have k2:=(hb2.cell (p:=⟨w.heap.size,2,none⟩) (show w.heap.size < _ by simp)).trans e2;have k3:=(hb2.cell (p:=⟨w.heap.size,3,none⟩) (show w.heap.size < _ by simp)).trans e3;have hwl2:w.heap.size < w2.heap.size:=Nat.lt_of_lt_of_le (by simp) hb2.size;simp only [Nat.one_mul,Nat.zero_mul,Nat.zero_add] at o0 o1 o2 o3;clear hown2 hb2) | (go_at_call 14;(refine (HKD.out _ HB2.out).mono ?_);rintro e w3 ⟨rfl,hb3⟩;have hg3l:g2 < w3.heap.size:=Nat.lt_of_lt_of_le hg2l hb3.size;have HO3:=mkA (own_kept_no HO2.out (grown_below (World.grownBy.refl _ none) hb3));have HB3:=mkA (HB2.out.trans (hb3.mono HB2.out.size));clear hb3 o0 o1 o2 o3))
    obtain ⟨b3,hb3⟩:∃ b3,w3.heap.size=b3:=⟨_,rfl⟩
    have HB3S:=mkA hb3
    have hsb:b3 ≤ w3.heap.size:=by omega
    have hwb3:w.heap.size ≤ b3:=by have:=HB3.out.size;omega
    have hg23:g2 < b3:=by omega
    clear hb3
    go_loopg [5,6] N (fun kq v5 v6 W => ∃ (i:Nat) (acc:List ByteArray),v6=.int .i64 i∧Aside0 (1 ≤ i∧i ≤ N∧kq=N + 1 - i∧acc=Lx.namesW ((ws.take i).drop 1)∧acc.length ≤ i)∧Aside0 (W.ownsRow b3 9 1 v5 acc.length (strCells acc))∧Aside0 (Below b3 w3 W)∧b3 ≤ W.heap.size)
    case atStart=>exact ⟨1,[],rfl,⟨Nat.le_refl _,by omega,by omega,by rw [HWS.out];rfl,Nat.zero_le _⟩,⟨own_nil _ _ _ _⟩,⟨Below.refl _ _⟩,hsb⟩
    case round =>
      obtain ⟨i,acc,rfl,HJ,HACC0,HBK,hszk⟩:=hrel
      have hi:=HJ.out.2.1
      have hi1:=HJ.out.1
      have hi0:(0:Int) ≤ (i:Int):=Int.natCast_nonneg _
      obtain ⟨al,hal⟩:∃ al,acc.length=al:=⟨_,rfl⟩
      have HAL:=mkA hal
      have HACC:=mkA (own_cast HACC0.out hal)
      have hall:al ≤ 100000:=by have:=HJ.out.2.2.2.2;omega
      clear hal
      by_cases hlt:i < N
      · obtain ⟨u,hu⟩:∃ u,ws[i]? = some u:=⟨_,List.getElem?_eq_getElem (by have:=HWN.out;omega)⟩
        obtain ⟨g',c',e',-,-,-,u0,u1,u2,u3⟩:=own_at HO3.out HWN.out hu
        simp only [Value.slice.injEq,Option.some.injEq,Addr.mk.injEq] at e'
        obtain ⟨⟨rfl,-⟩,-,rfl⟩:=e'
        have u0:=(HBK.out.cell (p:=⟨g2,_,none⟩) hg23).trans u0
        have u2:=(HBK.out.cell (p:=⟨g2,_,none⟩) hg23).trans u2
        have hg2r:g2 < wr.heap.size:=by omega
        have hx:Lx.namesW ((ws.take (i + 1)).drop 1)=acc ++ (if Lx.askW u=true then [u.t] else []):=by
          rw [take_snoc ws i u hu,List.drop_append_of_le_length (by rw [List.length_take];have:=HWN.out;omega),namesW_snoc,← HJ.out.2.2.2.1]
        have HX:=mkA hx
        obtain ⟨uk,huk⟩:∃ uk,(u.k == 1)=uk:=⟨_,rfl⟩
        obtain ⟨un,hun⟩:∃ un,(u.t.toList == [100,101,102,105,110,101,100])=un:=⟨_,rfl⟩
        have hask:Lx.askW u=(uk && !un):=by unfold Lx.askW;rw [hun,← huk];rfl
        rw [hask] at hx
        have HX:=mkA hx
        clear hu hx u1 u3 hask
        cases uk
        · clear hun
          go_wp2_with fail
          go_roundg (N - i)
          case measure=>have:=HJ.out;omega
          case rel=>exact ⟨i + 1,acc,by go_num,⟨by omega,by omega,by omega,(HX.out.trans (by simp)).symm,by have:=HJ.out.2.2.2.2;omega⟩,HACC0,HBK,hszk⟩
        · cases un
          · go_wp2_with (first | (at_builtin;refine print_append_cells (w0:=w3) (W:=wr) b3 rfl (.tmp 37) (.tmp 43) 62 9 (.string ⟨#[]⟩) 1 16 rfl Tryz.underlying62 info9 rfl (by decide) (by decide) u5 al (strCells acc) [.string u.t] (by rfl) (by simp [Act.eval]) rfl (by simp [Value.oneCell']) HACC.out HBK.out (by omega) (by omega) ?_;intro v6 w6 hv6 hb6 hg6 hat6;have HV6:=mkA hv6;have HB6:=mkA hb6;have hsz6:=hg6.size;clear hv6 hb6 hg6 hat6))
            go_roundg (N - i)
            case measure=>have:=HJ.out;omega
            case rel =>
              refine ⟨i + 1,acc ++ [u.t],by go_num,⟨by omega,by omega,by omega,(HX.out.trans (by simp)).symm,by rw [List.length_append,List.length_singleton];have:=HJ.out.2.2.2.2;omega⟩,⟨?_⟩,HB6,by omega⟩
              have h9:=HV6.out
              unfold strCells at h9 ⊢
              rw [List.length_append,List.length_singleton,HAL.out,List.map_append]
              exact h9
          · go_wp2_with fail
            go_roundg (N - i)
            case measure=>have:=HJ.out;omega
            case rel=>exact ⟨i + 1,acc,by go_num,⟨by omega,by omega,by omega,(HX.out.trans (by simp)).symm,by have:=HJ.out.2.2.2.2;omega⟩,HACC0,HBK,hszk⟩
      · obtain rfl:i=N:=by omega
        have e1:acc=Lx.namesW (ws.drop 1):=by rw [HJ.out.2.2.2.1,List.take_of_length_le (by have:=HWN.out;omega)]
        have HE1:=mkA e1
        clear e1
        go_wp2_with fail
        go_ret
        refine ⟨_,rfl,?_,HB3.out.trans (HBK.out.mono (by omega))⟩
        rw [← HE1.out]
        have h5:=HACC0.out
        refine ⟨h5.1,?_⟩
        rcases h5.2 with h | ⟨g,cap,cur,h1,h2,h3⟩
        · exact .inl h
        · exact .inr ⟨g,cap,cur,h1,Nat.le_trans hwb3 h2,h3⟩
  · clear hqe2
    go_enter Tryz.func59,Tryz.ntmps59
    go_wp2_with (first | (go_at_call 12;(refine (HWD.out _ HB0.out).mono ?_);rintro e w2 ⟨v2,rfl,hown2,hb2⟩;have hown2:=own_cast hown2 HWN.out;(obtain ⟨g2,cp2,rfl,hcp2,hg2b,hg2l,o0,o1,o2,o3⟩:=own_at hown2 HWN.out HU.out);have HO2:=mkA hown2;have HB2:=mkA (HB0.out.trans (hb2.mono HB0.out.size));have k0:=(hb2.cell (p:=⟨w.heap.size,0,none⟩) (show w.heap.size < _ by simp)).trans e0;have k1:=(hb2.cell (p:=⟨w.heap.size,1,none⟩) (show w.heap.size < _ by simp)).trans e1;have k2:=(hb2.cell (p:=⟨w.heap.size,2,none⟩) (show w.heap.size < _ by simp)).trans e2;have k3:=(hb2.cell (p:=⟨w.heap.size,3,none⟩) (show w.heap.size < _ by simp)).trans e3;have hwl2:w.heap.size < w2.heap.size:=Nat.lt_of_lt_of_le (by simp) hb2.size;simp only [Nat.one_mul,Nat.zero_mul,Nat.zero_add] at o0 o1 o2 o3;clear hown2 hb2) | (go_at_call 14;(refine (HKD.out _ HB2.out).mono ?_);rintro e w3 ⟨rfl,hb3⟩;have hg3l:g2 < w3.heap.size:=Nat.lt_of_lt_of_le hg2l hb3.size;have HO3:=mkA (own_kept_no HO2.out (grown_below (World.grownBy.refl _ none) hb3));have HB3:=mkA (HB2.out.trans (hb3.mono HB2.out.size));clear hb3 o0 o1 o2 o3))
    obtain ⟨b3,hb3⟩:∃ b3,w3.heap.size=b3:=⟨_,rfl⟩
    have HB3S:=mkA hb3
    have hsb:b3 ≤ w3.heap.size:=by omega
    have hwb3:w.heap.size ≤ b3:=by have:=HB3.out.size;omega
    have hg23:g2 < b3:=by omega
    clear hb3
    go_loopg [5,6] N (fun kq v5 v6 W => ∃ (i:Nat) (acc:List ByteArray),v6=.int .i64 i∧Aside0 (1 ≤ i∧i ≤ N∧kq=N + 1 - i∧acc=Lx.namesW ((ws.take i).drop 1)∧acc.length ≤ i)∧Aside0 (W.ownsRow b3 9 1 v5 acc.length (strCells acc))∧Aside0 (Below b3 w3 W)∧b3 ≤ W.heap.size)
    case atStart=>exact ⟨1,[],rfl,⟨Nat.le_refl _,by omega,by omega,by rw [HWS.out];rfl,Nat.zero_le _⟩,⟨own_nil _ _ _ _⟩,⟨Below.refl _ _⟩,hsb⟩
    case round =>
      obtain ⟨i,acc,rfl,HJ,HACC0,HBK,hszk⟩:=hrel
      have hi:=HJ.out.2.1
      have hi1:=HJ.out.1
      have hi0:(0:Int) ≤ (i:Int):=Int.natCast_nonneg _
      obtain ⟨al,hal⟩:∃ al,acc.length=al:=⟨_,rfl⟩
      have HAL:=mkA hal
      have HACC:=mkA (own_cast HACC0.out hal)
      have hall:al ≤ 100000:=by have:=HJ.out.2.2.2.2;omega
      clear hal
      by_cases hlt:i < N
      · obtain ⟨u,hu⟩:∃ u,ws[i]? = some u:=⟨_,List.getElem?_eq_getElem (by have:=HWN.out;omega)⟩
        obtain ⟨g',c',e',-,-,-,u0,u1,u2,u3⟩:=own_at HO3.out HWN.out hu
        simp only [Value.slice.injEq,Option.some.injEq,Addr.mk.injEq] at e'
        obtain ⟨⟨rfl,-⟩,-,rfl⟩:=e'
        have u0:=(HBK.out.cell (p:=⟨g2,_,none⟩) hg23).trans u0
        have u2:=(HBK.out.cell (p:=⟨g2,_,none⟩) hg23).trans u2
        have hg2r:g2 < wr.heap.size:=by omega
        have hx:Lx.namesW ((ws.take (i + 1)).drop 1)=acc ++ (if Lx.askW u=true then [u.t] else []):=by
          rw [take_snoc ws i u hu,List.drop_append_of_le_length (by rw [List.length_take];have:=HWN.out;omega),namesW_snoc,← HJ.out.2.2.2.1]
        have HX:=mkA hx
        obtain ⟨uk,huk⟩:∃ uk,(u.k == 1)=uk:=⟨_,rfl⟩
        obtain ⟨un,hun⟩:∃ un,(u.t.toList == [100,101,102,105,110,101,100])=un:=⟨_,rfl⟩
        have hask:Lx.askW u=(uk && !un):=by unfold Lx.askW;rw [hun,← huk];rfl
        rw [hask] at hx
        have HX:=mkA hx
        clear hu hx u1 u3 hask
        cases uk
        · clear hun
          go_wp2_with fail
          go_roundg (N - i)
          case measure=>have:=HJ.out;omega
          case rel=>exact ⟨i + 1,acc,by go_num,⟨by omega,by omega,by omega,(HX.out.trans (by simp)).symm,by have:=HJ.out.2.2.2.2;omega⟩,HACC0,HBK,hszk⟩
        · cases un
          · go_wp2_with (first | (at_builtin;refine print_append_cells (w0:=w3) (W:=wr) b3 rfl (.tmp 37) (.tmp 43) 62 9 (.string ⟨#[]⟩) 1 16 rfl Tryz.underlying62 info9 rfl (by decide) (by decide) u5 al (strCells acc) [.string u.t] (by rfl) (by simp [Act.eval]) rfl (by simp [Value.oneCell']) HACC.out HBK.out (by omega) (by omega) ?_;intro v6 w6 hv6 hb6 hg6 hat6;have HV6:=mkA hv6;have HB6:=mkA hb6;have hsz6:=hg6.size;clear hv6 hb6 hg6 hat6))
            go_roundg (N - i)
            case measure=>have:=HJ.out;omega
            case rel =>
              refine ⟨i + 1,acc ++ [u.t],by go_num,⟨by omega,by omega,by omega,(HX.out.trans (by simp)).symm,by rw [List.length_append,List.length_singleton];have:=HJ.out.2.2.2.2;omega⟩,⟨?_⟩,HB6,by omega⟩
              have h9:=HV6.out
              unfold strCells at h9 ⊢
              rw [List.length_append,List.length_singleton,HAL.out,List.map_append]
              exact h9
          · go_wp2_with fail
            go_roundg (N - i)
            case measure=>have:=HJ.out;omega
            case rel=>exact ⟨i + 1,acc,by go_num,⟨by omega,by omega,by omega,(HX.out.trans (by simp)).symm,by have:=HJ.out.2.2.2.2;omega⟩,HACC0,HBK,hszk⟩
      · obtain rfl:i=N:=by omega
        have e1:acc=Lx.namesW (ws.drop 1):=by rw [HJ.out.2.2.2.1,List.take_of_length_le (by have:=HWN.out;omega)]
        have HE1:=mkA e1
        clear e1
        go_wp2_with fail
        go_ret
        refine ⟨_,rfl,?_,HB3.out.trans (HBK.out.mono (by omega))⟩
        rw [← HE1.out]
        have h5:=HACC0.out
        refine ⟨h5.1,?_⟩
        rcases h5.2 with h | ⟨g,cap,cur,h1,h2,h3⟩
        · exact .inl h
        · exact .inr ⟨g,cap,cur,h1,Nat.le_trans hwb3 h2,h3⟩
theorem asked_calls (t:Lx.Tok) (w:World) (hts:t.t.size ≤ 20000) :
    Calls Tryz.prog 59 #[tokV t] w fun e w' => ∃ v,e=.returned v∧w'.ownsRow w.heap.size 9 1 v (Lx.askR t).length (strCells (Lx.askR t))∧Below w.heap.size w w':=by
  cases hE:Lx.isExpr (Lx.kindOf t)
  · cases hD:Lx.isDfn (Lx.kindOf t)
    · refine (asked_none t w hts hE hD).mono ?_
      rintro e w' ⟨rfl,hb⟩
      refine ⟨_,rfl,?_,hb⟩
      unfold Lx.askR
      rw [hE,hD,if_neg Bool.false_ne_true,if_neg Bool.false_ne_true]
      exact own_nil _ _ _ _
    · exact asked_dfn t w hts hE hD
  · exact asked_expr t w hts hE
theorem askR_len (t:Lx.Tok):(Lx.askR t).length ≤ t.t.size + 1:=by
  unfold Lx.askR
  split
  · have h1:=Lx.wdOf_len t
    have h2:=namesW_len ((Lx.wdOf t).drop 1)
    rw [List.length_drop] at h2
    omega
  · split
    · split
      · split <;> simp
      · simp
    · simp
theorem own_mono {w:World} {base b2:Nat} {e:TypeId} {size n:Nat} {v:Value} {xs:List Value} (h:w.ownsRow b2 e size v n xs) (hb:base ≤ b2):w.ownsRow base e size v n xs:=by
  refine ⟨h.1,?_⟩
  rcases h.2 with h | ⟨g,cap,cur,h1,h2,h3⟩
  · exact .inl h
  · exact .inr ⟨g,cap,cur,h1,Nat.le_trans hb h2,h3⟩
set_option maxRecDepth 100000 in
set_option maxHeartbeats 8000000 in
theorem refnames_ok (v:Value) (L:List Lx.Tok) (w:World) (hT:Tks w v L) (hlen:L.length ≤ 30000) (hs3:∀ t ∈ L,t.t.size ≤ 3000) (hE:(Lx.groups (L.map Lx.kindOf)).2.1=0) (OUT:List ByteArray)
    (hsort:∀ (W:World) (base:Nat) (sv:Value),W.ownsRow base 9 1 sv (L.flatMap Lx.askR).length (strCells (L.flatMap Lx.askR)) → (L.flatMap Lx.askR).length ≤ 100000000 → Calls Tryz.prog 60 #[sv] W fun e w' => ∃ rv,e=.returned rv∧w'.ownsRow W.heap.size 9 1 rv OUT.length (strCells OUT)∧Below W.heap.size W w') :
    Calls Tryz.prog 33 #[v] w fun e w' => ∃ rv,e=.returned (.tuple #[rv,.int .i64 0])∧w'.ownsRow w.heap.size 9 1 rv OUT.length (strCells OUT)∧Below w.heap.size w w':=by
  have hgr:=refGroups_calls v L w hT (by omega) (fun t ht=>Nat.le_trans (hs3 t ht) (by omega))
  rw [hE] at hgr
  have HGR:=mkA hgr
  have HS3:=mkA hs3
  have HSORT:=mkA hsort
  obtain ⟨A,c,rfl,hc1,hc2,hA⟩:=hT
  obtain ⟨n,hn⟩:∃ n,L.length=n:=⟨_,rfl⟩
  have HN:=mkA hn
  have HA:=mkA hA
  unfold maxLen at hc2
  rw [hn] at HGR hc1 hlen ⊢
  clear hs3 hE hgr hn hA hsort
  go_enter Tryz.func33,Tryz.ntmps33
  go_wp2_with (go_at_call 17;(refine HGR.out.mono ?_);rintro e w2 ⟨gv,rfl,hgrp,hb⟩;have HB:=mkA hb;have hszz:=hb.size;clear hgrp hb)
  have HBW2:=HB
  obtain ⟨b2,hb2⟩:∃ b2,w2.heap.size=b2:=⟨_,rfl⟩
  have HB2:=mkA hb2
  have hsb:b2 ≤ w2.heap.size:=by omega
  have hwb2:w.heap.size ≤ b2:=by omega
  clear hb2 hszz
  go_loopg [7,8] n (fun kq v7 v8 W => ∃ (i:Nat) (acc:List ByteArray),v8=.int .i64 i∧Aside0 (i ≤ n∧kq=n - i∧acc=(L.take i).flatMap Lx.askR∧acc.length ≤ i * 3001)∧Aside0 (W.ownsRow b2 9 1 v7 acc.length (strCells acc))∧Aside0 (Below b2 w2 W)∧b2 ≤ W.heap.size)
  case atStart=>exact ⟨0,[],rfl,⟨by omega,rfl,rfl,by simp⟩,⟨own_nil _ _ _ _⟩,⟨Below.refl _ _⟩,hsb⟩
  case round =>
    obtain ⟨i,acc,rfl,HJ,HACC,HBK,hszk⟩:=hrel
    have hi:=HJ.out.1
    have hi0:(0:Int) ≤ (i:Int):=Int.natCast_nonneg _
    have hacl:=HJ.out.2.2.2
    by_cases hlt:i < n
    · obtain ⟨t,ht⟩:∃ t,L[i]? = some t:=⟨_,List.getElem?_eq_getElem (by have:=HN.out;omega)⟩
      obtain ⟨g1,o,rfl,hta,hgl1⟩:=HA.out.resolve_left (fun e=>by rw [e] at ht;simp at ht)
      have hbc:Below w.heap.size w wr:=HBW2.out.trans (HBK.out.mono (by omega))
      obtain ⟨t0,t1,t2,t3⟩:=(hta.below hbc hgl1) i t ht
      have hg1r:g1 < wr.heap.size:=Nat.lt_of_lt_of_le hgl1 hbc.size
      have hx:(L.take (i + 1)).flatMap Lx.askR=acc ++ Lx.askR t:=by
        rw [take_snoc L i t ht,List.flatMap_append,← HJ.out.2.2.1];simp
      have hal:=askR_len t
      have hts:=HS3.out t (List.mem_of_getElem? ht)
      have has:=asked_calls t wr (by omega)
      unfold tokV at has
      obtain ⟨nms,hnms⟩:∃ nms,Lx.askR t=nms:=⟨_,rfl⟩
      rw [hnms] at has hx hal
      obtain ⟨nn,hnn⟩:∃ nn,nms.length=nn:=⟨_,rfl⟩
      have HAS:=mkA has
      have HX:=mkA hx
      have HNN:=mkA hnn
      have HBC:=mkA hbc
      have hnn3:nms.length ≤ 3001:=by omega
      have HN3:=mkA hnn3
      clear ht hta hx hnms hnn has hbc hal hts hnn3
      go_wp2_with (first | (go_at_call 59;(refine (HAS.out).mono ?_);rintro e w3 ⟨av,rfl,ho3,hb3⟩;have HO3:=mkA ho3;have HACC3:=mkA (own_kept_no HACC.out (grown_below (World.grownBy.refl _ none) hb3));have HBK3:=mkA (HBK.out.trans (hb3.mono hszk));have hsz3:=hb3.size;clear ho3 hb3) | (at_builtin;refine str_append_own b2 wr.heap.size rfl (.tmp 24) (.tmp 29) rfl u7 av acc nms (by rfl) (by rfl) HACC3.out HO3.out (by omega) (by have:=HN3.out;omega) ?_;intro v5 w5 hv5 hg5 hat5;have HV5:=mkA hv5;have HB5:=mkA (HBK3.out.grown hg5 (by omega) (fun k hk=>(own_blk HACC3.out k hk).1));have hsz5:=hg5.size;clear hv5 hg5 hat5))
      go_roundg (n - (i + 1))
      case measure=>have:=HJ.out;omega
      case rel =>
        refine ⟨i + 1,acc ++ nms,by go_num,⟨by omega,rfl,HX.out.symm,?_⟩,HV5,HB5,by omega⟩
        have h1:=HN3.out
        have h2:=HJ.out.2.2.2
        rw [List.length_append,Nat.succ_mul]
        omega
    · obtain rfl:i=n:=by omega
      have e1:acc=L.flatMap Lx.askR:=by rw [HJ.out.2.2.1,List.take_of_length_le (by have:=HN.out;omega)]
      have hso:=HSORT.out wr b2 u7 (by rw [← e1];exact HACC.out) (by rw [← e1];omega)
      have HSO:=mkA hso
      clear e1 hso
      go_wp2_with (first | (go_at_call 60;(refine (HSO.out).mono ?_);rintro e w3 ⟨rv,rfl,ho3,hb3⟩;have HO3:=mkA ho3;have HB3:=mkA hb3;clear ho3 hb3))
      go_ret2
      exact ⟨_,rfl,own_mono HO3.out (by omega),HBW2.out.trans ((HBK.out.trans (HB3.out.mono hszk)).mono hwb2)⟩
theorem str_cell (l:List ByteArray) (i:Nat) (t:ByteArray) (h:l[i]? = some t):(strCells l)[i]? = some (.string t):=by
  unfold strCells;rw [List.getElem?_map,h];rfl
theorem str_at {w:World} {base:Nat} {v:Value} {l:List ByteArray} {N:Nat} (h:w.ownsRow base 9 1 v N (strCells l)) (hN:l.length=N) {i:Nat} {u:ByteArray} (hu:l[i]? = some u):∃ g c,v=.slice (some ⟨g,0,none⟩) N c∧N ≤ c∧base ≤ g∧g < w.heap.size∧w.cell? ⟨g,i,none⟩=some (.string u):=by
  have hc:=fun g=>h.cells (g:=g)
  have hi:=(List.getElem?_eq_some_iff.1 hu).1
  rcases h.2 with ⟨e,hn⟩ | ⟨g,cap,cur,e,hb,hh,h1,-⟩
  · omega
  · refine ⟨g,cap,e,h1,hb,(Array.getElem?_eq_some_iff.1 hh).1,?_⟩
    subst e
    rw [h.cellAt i (by omega)]
    exact str_cell l i u hu
theorem hasO_calls (base n:Nat) (v:Value) (l:List ByteArray) (t:ByteArray) (w:World) (h:w.ownsRow base 9 1 v n (strCells l)) (hn:l.length=n) (hn2:n ≤ 1000000000) :
    Calls Tryz.prog 38 #[v,.string t] w fun e w' => ∃ r:Int,e=.returned (.int .i64 r)∧(0 ≤ r ↔ t ∈ l)∧w=w':=by
  obtain ⟨A,c,rfl⟩:=own_slice h
  have H:=mkA h
  have HN:=mkA hn
  clear h hn
  go_enter Tryz.func38,Tryz.ntmps38
  go_wp2_with fail
  go_loopg [5] n (fun kq v5 w' => ∃ i:Nat,v5=.int .i64 i∧Aside0 (i ≤ n∧t ∉ l.take i∧kq=n - i)∧w'=w)
  case atStart=>exact ⟨0,rfl,⟨by omega,by simp,rfl⟩,rfl⟩
  case round =>
    obtain ⟨i,rfl,HA,rfl⟩:=hrel
    have hi:=HA.out.1
    by_cases hlt:i < n
    · obtain ⟨g,hg⟩:∃ g,l[i]? = some g:=⟨_,List.getElem?_eq_getElem (by have:=HN.out;omega)⟩
      obtain ⟨gb,cc,e',hcc,-,hgb,hc⟩:=str_at H.out HN.out hg
      simp only [Value.slice.injEq] at e'
      obtain ⟨rfl,-,rfl⟩:=e'
      have hd:=tl_eq g t
      have HT:Aside0 (l.take (i + 1)=l.take i ++ [g]):=⟨by rw [List.take_add_one,hg];rfl⟩
      have HM:Aside0 (g ∈ l):=⟨List.mem_of_getElem? hg⟩
      clear hg
      by_cases he:g=t
      · rw [decide_eq_true he] at hd
        go_wp2_with fail
        go_ret
        exact ⟨_,rfl,⟨fun _=>he ▸ HM.out,fun _=>by omega⟩,rfl⟩
      · rw [decide_eq_false he] at hd
        go_wp2_with fail
        go_roundg (n - (i + 1))
        case measure=>have:=HA.out;omega
        case rel=>exact ⟨i + 1,by go_num,⟨by omega,by rw [HT.out];intro hh;rw [List.mem_append,List.mem_singleton] at hh;rcases hh with hh | hh;exact HA.out.2.1 hh;exact he hh.symm,rfl⟩,rfl⟩
    · obtain rfl:i=n:=by omega
      go_wp2_with fail
      go_ret
      exact ⟨_,rfl,⟨fun h=>by omega,fun h=>absurd h (by have:=HA.out.2.1;rwa [List.take_of_length_le (by have:=HN.out;omega)] at this)⟩,rfl⟩
def SortedS (l:List ByteArray):Prop:=l.Pairwise fun a b=>a.data.toList < b.data.toList
theorem less_eq (x y:ByteArray):Op.bytesLess x.toList y.toList=decide (x.data.toList < y.data.toList):=by
  rw [bytesLess_eq,Lib.toList_data,Lib.toList_data]
theorem lt_tri (x y:List UInt8) (h:¬ x < y) (hne:x ≠ y):y < x:=by
  have h1:y ≤ x:=List.not_lt.1 h
  rcases Classical.em (y < x) with h2 | h2
  · exact h2
  · exact absurd (List.le_antisymm (List.not_lt.1 h2) h1) hne
theorem own_cast2 {w:World} {base n m:Nat} {e:TypeId} {size:Nat} {A:Option Addr} {c:Nat} {xs:List Value} (h:w.ownsRow base e size (.slice A n c) n xs) (hm:m=n):w.ownsRow base e size (.slice A n c) m xs:=by
  subst hm;exact h
set_option maxRecDepth 100000 in
set_option maxHeartbeats 8000000 in
theorem sorted_calls (base n:Nat) (v:Value) (l:List ByteArray) (w:World) (h:w.ownsRow base 9 1 v n (strCells l)) (hn:l.length=n) (hn2:n ≤ 100000000) (OUT:List ByteArray) (hO:∀ acc,SortedS acc → (∀ x,x ∈ acc ↔ x ∈ l) → acc=OUT) :
    Calls Tryz.prog 60 #[v] w fun e w' => ∃ rv,e=.returned rv∧w'.ownsRow w.heap.size 9 1 rv OUT.length (strCells OUT)∧Below w.heap.size w w':=by
  obtain ⟨A,c,rfl⟩:=own_slice h
  have H:=mkA h
  have HN:=mkA hn
  have HO:=mkA hO
  obtain ⟨b2,hb2⟩:∃ b2,w.heap.size=b2:=⟨_,rfl⟩
  have HB2:=mkA hb2
  rw [hb2]
  have hsb:b2 ≤ w.heap.size:=by omega
  clear h hn hO hb2
  go_enter Tryz.func60,Tryz.ntmps60
  go_wp2_with fail
  go_loopg [3,4] n (fun kq v3 v4 W => ∃ (i:Nat) (acc:List ByteArray),v4=.int .i64 i∧Aside0 (i ≤ n∧kq=n - i∧SortedS acc∧(∀ x,x ∈ acc ↔ x ∈ l.take i)∧acc.length ≤ i)∧Aside0 (W.ownsRow b2 9 1 v3 acc.length (strCells acc))∧Aside0 (Below b2 w W)∧b2 ≤ W.heap.size)
  case atStart=>exact ⟨0,[],rfl,⟨by omega,rfl,List.Pairwise.nil,by simp,by simp⟩,⟨own_nil _ _ _ _⟩,⟨Below.refl _ _⟩,hsb⟩
  case round =>
    obtain ⟨i,acc,rfl,HJ,HACC0,HBK,hszk⟩:=hrel
    have hi:=HJ.out.1
    have hi0:(0:Int) ≤ (i:Int):=Int.natCast_nonneg _
    obtain ⟨al,hal⟩:∃ al,acc.length=al:=⟨_,rfl⟩
    have HAL:=mkA hal
    have HACC:=mkA (own_cast HACC0.out hal)
    have hali:al ≤ i:=by have:=HJ.out.2.2.2.2;omega
    clear hal
    by_cases hlt:i < n
    · obtain ⟨x,hx⟩:∃ x,l[i]? = some x:=⟨_,List.getElem?_eq_getElem (by have:=HN.out;omega)⟩
      obtain ⟨gb,cc,e',hcc,-,hgb,hc⟩:=str_at H.out HN.out hx
      simp only [Value.slice.injEq] at e'
      obtain ⟨rfl,-,rfl⟩:=e'
      have hgb2:gb < b2:=by have:=HB2.out;omega
      have hc:=(HBK.out.cell (p:=⟨gb,i,none⟩) hgb2).trans hc
      have hgr:gb < wr.heap.size:=by omega
      have hsn:l.take (i + 1)=l.take i ++ [x]:=take_snoc l i x hx
      have hhas:=hasO_calls b2 al u3 acc x wr HACC.out HAL.out (by omega)
      have HHAS:=mkA hhas
      have HSN:=mkA hsn
      clear hx hhas hsn
      by_cases hin:x ∈ acc
      · have HIN:=mkA hin
        have hne:∀ r:Int,(0 ≤ r ↔ x ∈ acc) → decide (0 ≤ r)=true:=fun r hr=>decide_eq_true (hr.2 hin)
        clear hin
        go_wp2_with (first | (go_at_call 38;(refine (HHAS.out).mono ?_);rintro e w3 ⟨r,rfl,hr,rfl⟩;have hr:=hne r hr;clear hne))
        go_roundg (n - (i + 1))
        case measure=>have:=HJ.out;omega
        case rel =>
          refine ⟨i + 1,acc,by go_num,⟨by omega,rfl,HJ.out.2.2.1,fun y => ?_,by have:=HJ.out.2.2.2.2;omega⟩,HACC0,HBK,hszk⟩
          rw [HSN.out,List.mem_append,List.mem_singleton,← HJ.out.2.2.2.1 y]
          exact ⟨Or.inl,fun h=>h.elim id fun e=>e ▸ HIN.out⟩
      · have HIN:=mkA hin
        have hne:∀ r:Int,(0 ≤ r ↔ x ∈ acc) → decide (0 ≤ r)=false:=fun r hr=>decide_eq_false fun h=>hin (hr.1 h)
        clear hin
        go_wp2_with (first | (go_at_call 38;(refine (HHAS.out).mono ?_);rintro e w3 ⟨r,rfl,hr,rfl⟩;have hr:=hne r hr;clear hne) | (at_builtin;refine print_append_cells (w0:=w) (W:=wr) b2 rfl (.tmp 20) (.tmp 25) 62 9 (.string ⟨#[]⟩) 1 16 rfl Tryz.underlying62 info9 rfl (by decide) (by decide) u3 al (strCells acc) [.string x] (by rfl) (by simp [Act.eval]) rfl (by simp [Value.oneCell']) HACC.out HBK.out (by omega) (by omega) ?_;intro v6 w6 hv6 hb6 hg6 hat6;(obtain ⟨g6,cp6,hve,hg6b,hg6l⟩:=hv6.form (by omega));subst hve;have HV6:=mkA hv6;have HB6:=mkA hb6;have hsz6:=hg6.size;clear hv6 hb6 hg6 hat6))
        have w1:IntKind.i64.wrap (((al + 1:Nat):Int) - 1)=(al:Int):=by rw [show ((al + 1:Nat):Int) - 1=al by omega];exact IntWalk.i64_in _ (by omega)
        obtain ⟨ws6,hws6⟩:∃ ws6:World,ws6=w6:=⟨_,rfl⟩
        have HIJ:=HJ
        go_loopg [5] al (fun kq v5 W => ∃ (k:Nat) (A B:List ByteArray),v5=.int .i64 k∧Aside0 (kq=k∧A.length=k∧k ≤ al∧acc=A ++ B∧∀ b ∈ B,x.data.toList < b.data.toList)∧Aside0 (W.ownsRow b2 9 1 (.slice (some ⟨g6,0,none⟩) (al + 1) cp6) (al + 1) (strCells (A ++ x :: B)))∧Aside0 (Below b2 w W)∧b2 ≤ W.heap.size∧g6 < W.heap.size)
        case atStart =>
          refine ⟨al,acc,[],by go_num,⟨rfl,HAL.out,Nat.le_refl _,by simp,by simp⟩,⟨?_⟩,HB6,by omega,hg6l⟩
          have h9:=HV6.out
          unfold strCells at h9 ⊢
          rw [List.map_append]
          exact h9
        case round =>
          obtain ⟨k,A,B,rfl,HK,HOW,HBW,hszw,hg6w⟩:=hrel
          have hkal:=HK.out.2.2.1
          have hk0:(0:Int) ≤ (k:Int):=Int.natCast_nonneg _
          cases k with
          | zero =>
            have hk3:decide ((0:Int) < ((0:Nat):Int))=false:=rfl
            go_wp2_with fail
            go_quiet (fail)
            go_wp2_with fail
            go_roundg (n - (i + 1))
            case measure=>have:=HIJ.out;omega
            case rel =>
              obtain rfl:A=[]:=List.eq_nil_of_length_eq_zero HK.out.2.1
              have hB:acc=B:=by have:=HK.out.2.2.2.1;simpa using this
              refine ⟨i + 1,[] ++ x :: B,by go_num,⟨by omega,rfl,?_,?_,?_⟩,⟨?_⟩,⟨HBW.out.grown (grown_drewN (World.grownBy.refl _ none) _) hszw (fun k hk=>by cases hk)⟩,hszw⟩
              · rw [List.nil_append]
                exact List.pairwise_cons.2 ⟨HK.out.2.2.2.2,hB ▸ HIJ.out.2.2.1⟩
              · intro y
                have hm:y ∈ l.take (i + 1) ↔ y ∈ acc ∨ y=x:=by rw [HSN.out,List.mem_append,List.mem_singleton,← HIJ.out.2.2.2.1 y]
                rw [hm,hB]
                simp [or_comm]
              · have:=HIJ.out.2.2.2.2;rw [← hB];simp;omega
              · have h9:=own_kept_no HOW.out (grown_drewN (World.grownBy.refl wr none) nq)
                have h10:([] ++ x :: B).length=al + 1:=by rw [← hB];simp;exact HAL.out
                exact own_cast2 h9 h10
          | succ k =>
            obtain ⟨A',y,hA'⟩:∃ A' y,A=A' ++ [y]:=⟨A.dropLast,A.getLast (by intro e;rw [e] at HK;have:=HK.out.2.1;simp at this),(List.dropLast_concat_getLast _).symm⟩
            have hA'l:A'.length=k:=by have:=HK.out.2.1;rw [hA'] at this;simpa using this
            have c0:wr.cell? ⟨g6,k,none⟩=some (.string y):=by
              rw [HOW.out.cellAt k (by omega)]
              refine str_cell _ _ _ ?_
              rw [hA',List.append_assoc,List.getElem?_append_right (by omega),hA'l,Nat.sub_self];rfl
            have c1:wr.cell? ⟨g6,k + 1,none⟩=some (.string x):=by
              rw [HOW.out.cellAt (k + 1) (by omega)]
              refine str_cell _ _ _ ?_
              rw [hA',List.getElem?_append_right (by simp;omega)];simp [hA'l]
            have hf0:wr.frozen? ⟨g6,k,none⟩=false:=HOW.out.frozenAt k
            have hf1:wr.frozen? ⟨g6,k + 1,none⟩=false:=HOW.out.frozenAt (k + 1)
            have w2':IntKind.i64.wrap (((k + 1:Nat):Int) - 1)=(k:Int):=by rw [show ((k + 1:Nat):Int) - 1=k by omega];exact IntWalk.i64_in _ (by omega)
            have w3':IntKind.i64.wrap ((k:Int) + 1 - 1)=(k:Int):=by rw [show (k:Int) + 1 - 1=k by omega];exact IntWalk.i64_in _ (by omega)
            have hl:=less_eq x y
            have hk1:decide ((0:Int) < ((k + 1:Nat):Int))=true:=decide_eq_true (by omega)
            have hk2:decide ((0:Int) < (k:Int) + 1)=true:=decide_eq_true (by omega)
            by_cases hlt2:x.data.toList < y.data.toList
            · rw [decide_eq_true hlt2] at hl
              have HLT:=mkA hlt2
              have hst1:=HOW.out.stored (k + 1) (.string y)
              have hst2:=hst1.1.stored k (.string x)
              have HST1:=mkA hst1
              have HST2:=mkA hst2
              have hset:((strCells (A ++ x :: B)).set (k + 1) (.string y)).set k (.string x)=strCells (A' ++ x :: y :: B):=by
                unfold strCells
                rw [hA',← List.map_set,← List.map_set]
                congr 1
                rw [List.set_append_right _ _ (by simp;omega),show k + 1 - (A' ++ [y]).length=0 by simp;omega,List.append_assoc,List.set_append_right _ _ (by omega),hA'l,Nat.sub_self]
                rfl
              have HSET:=mkA hset
              have hf2:(wr.setCell ⟨g6,k + 1,none⟩ (.string y)).frozen? ⟨g6,k,none⟩=false:=hst1.1.frozenAt k
              have HA':=mkA hA'
              have HAL':=mkA hA'l
              clear hst1 hst2 hset hA' hA'l hlt2
              go_wp2_with fail
              go_quiet (fail)
              go_wp2_with fail
              go_roundg k
              case measure=>have:=HK.out;omega
              case rel =>
                have hgq:=grown_drewN (World.grownBy.refl wr none) nq
                have hq1:=own_kept_no HOW.out hgq
                have hq2:=hq1.stored (k + 1) (.string y)
                have hq3:=hq2.1.stored k (.string x)
                rw [HSET.out] at hq3
                have hb1:=(HBW.out.grown hgq hszw (fun k hk=>by cases hk)).grown hq2.2 hszw (fun k hk=>by cases hk;exact hg6b)
                have hb2:=hb1.grown hq3.2 (by simpa using hszw) (fun k hk=>by cases hk;exact hg6b)
                refine ⟨k,A',y :: B,by go_num,⟨rfl,HAL'.out,by omega,by rw [HK.out.2.2.2.1,HA'.out,List.append_assoc];rfl,?_⟩,⟨hq3.1⟩,⟨hb2⟩,by simpa using hszw,by simpa using hg6w⟩
                intro b hb
                rcases List.mem_cons.1 hb with rfl | hb
                · exact HLT.out
                · exact HK.out.2.2.2.2 b hb
            · rw [decide_eq_false hlt2] at hl
              have HLT:=mkA hlt2
              have HA':=mkA hA'
              have HAL':=mkA hA'l
              clear hA' hA'l hlt2
              go_wp2_with fail
              go_quiet (fail)
              go_wp2_with fail
              go_roundg (n - (i + 1))
              case measure=>have:=HIJ.out;omega
              case rel =>
                refine ⟨i + 1,A ++ x :: B,by go_num,⟨by omega,rfl,?_,?_,?_⟩,⟨?_⟩,⟨HBW.out.grown (grown_drewN (World.grownBy.refl _ none) _) hszw (fun k hk=>by cases hk)⟩,hszw⟩
                · have hyx:y.data.toList < x.data.toList:=lt_tri _ _ HLT.out (fun e=>HIN.out (by
                    have:x=y:=ByteArray.ext (Array.toList_inj.1 e)
                    rw [HK.out.2.2.2.1,HA'.out,this];simp))
                  have hs:=HIJ.out.2.2.1
                  rw [HK.out.2.2.2.1] at hs
                  obtain ⟨hs1,hs2,hs3⟩:=List.pairwise_append.1 hs
                  refine List.pairwise_append.2 ⟨hs1,List.pairwise_cons.2 ⟨HK.out.2.2.2.2,hs2⟩,fun a ha b hb => ?_⟩
                  have hax:a.data.toList < x.data.toList:=by
                    rw [HA'.out] at ha hs1
                    rcases List.mem_append.1 ha with ha | ha
                    · exact List.lt_trans ((List.pairwise_append.1 hs1).2.2 a ha y (by simp)) hyx
                    · rw [List.mem_singleton.1 ha];exact hyx
                  rcases List.mem_cons.1 hb with rfl | hb
                  · exact hax
                  · exact hs3 a ha b hb
                · intro z
                  have hm:z ∈ l.take (i + 1) ↔ z ∈ acc ∨ z=x:=by rw [HSN.out,List.mem_append,List.mem_singleton,← HIJ.out.2.2.2.1 z]
                  rw [hm,HK.out.2.2.2.1,List.mem_append,List.mem_append,List.mem_cons]
                  constructor
                  · rintro (h | h | h)
                    · exact .inl (.inl h)
                    · exact .inr h
                    · exact .inl (.inr h)
                  · rintro ((h | h) | h)
                    · exact .inl h
                    · exact .inr (.inr h)
                    · exact .inr (.inl h)
                · have h1:=HIJ.out.2.2.2.2
                  have h2:=congrArg List.length HK.out.2.2.2.1
                  simp at h2 ⊢;omega
                · have h2:=congrArg List.length HK.out.2.2.2.1
                  have h3:=HAL.out
                  have h10:(A ++ x :: B).length=al + 1:=by simp at h2 ⊢;omega
                  exact own_cast2 (own_kept_no HOW.out (grown_drewN (World.grownBy.refl wr none) nq)) h10
    · obtain rfl:i=n:=by omega
      have e1:acc=OUT:=HO.out acc HJ.out.2.2.1 (by have:=HJ.out.2.2.2.1;rwa [List.take_of_length_le (by have:=HN.out;omega)] at this)
      have HE1:=mkA e1
      clear e1
      go_wp2_with fail
      go_ret
      refine ⟨_,rfl,?_,HBK.out⟩
      rw [← HE1.out]
      exact HACC0.out
end Go.Proofs.YtjnafjgonoficaaGreatDoor
namespace Go.Proofs.YtjnafjgonoficaaGreatDoor
open Go.RowKit Go.Sort Go.Lib
theorem sorted_uniq:∀ a b:List ByteArray,SortedS a → SortedS b → (∀ x,x ∈ a ↔ x ∈ b) → a=b
  | [],[],_,_,_=>rfl
  | [],y :: b,_,_,h=>absurd ((h y).2 (by simp)) (by simp)
  | x :: a,[],_,_,h=>absurd ((h x).1 (by simp)) (by simp)
  | x :: a,y :: b,ha,hb,h=>by
    obtain ⟨ha1,ha2⟩:=List.pairwise_cons.1 ha
    obtain ⟨hb1,hb2⟩:=List.pairwise_cons.1 hb
    have hxy:x=y:=by
      rcases List.mem_cons.1 ((h x).1 (by simp)) with e | h1
      · exact e
      · rcases List.mem_cons.1 ((h y).2 (by simp)) with e | h2
        · exact e.symm
        · exact absurd (List.lt_trans (hb1 x h1) (ha1 y h2)) (List.lt_irrefl _)
    subst hxy
    congr 1
    refine sorted_uniq a b ha2 hb2 fun z=>⟨fun hz => ?_,fun hz => ?_⟩
    · rcases List.mem_cons.1 ((h z).1 (List.mem_cons_of_mem _ hz)) with e | h1
      · subst e;exact absurd (ha1 z hz) (List.lt_irrefl _)
      · exact h1
    · rcases List.mem_cons.1 ((h z).2 (List.mem_cons_of_mem _ hz)) with e | h1
      · subst e;exact absurd (hb1 z hz) (List.lt_irrefl _)
      · exact h1
theorem le_lt (x y z:List UInt8) (h:x ≤ y) (h2:y < z):x < z:=by
  rcases Classical.em (x=y) with e | e
  · rw [e];exact h2
  · exact List.lt_trans (lt_tri y x (List.not_lt.2 h) (Ne.symm e)) h2
theorem comp_law (d:Array (List UInt8)) (hd:∀ i j,i < j → j < d.size → d[i]! ≤ d[j]!):∀ m,m ≤ d.size → (Lib.compactUpTo d m).Pairwise (fun a b=>a < b)∧∀ x,x ∈ Lib.compactUpTo d m ↔ ∃ j,j < m∧d[j]! = x
  | 0,_=>⟨by simp [Lib.compactUpTo],by simp [Lib.compactUpTo]⟩
  | m + 1,h=>by
    obtain ⟨h1,h2⟩:=comp_law d hd m (by omega)
    rw [Lib.compactUpTo_succ]
    cases hk:Lib.keeps d m
    · rw [if_neg Bool.false_ne_true,List.append_nil]
      refine ⟨h1,fun x => ?_⟩
      rw [h2 x]
      unfold Lib.keeps at hk
      have hk:=of_decide_eq_false hk
      rw [not_or] at hk
      have he:d[m]! = d[m - 1]!:=Classical.not_not.1 hk.2
      constructor
      · rintro ⟨j,hj,e⟩;exact ⟨j,by omega,e⟩
      · rintro ⟨j,hj,e⟩
        by_cases hjm:j=m
        · subst hjm;exact ⟨j - 1,by omega,by rw [← he];exact e⟩
        · exact ⟨j,by omega,e⟩
    · rw [if_pos rfl]
      refine ⟨List.pairwise_append.2 ⟨h1,by simp,fun a ha b hb => ?_⟩,fun x => ?_⟩
      · rw [List.mem_singleton.1 hb]
        obtain ⟨j,hj,rfl⟩:=(h2 a).1 ha
        unfold Lib.keeps at hk
        have hne:d[m]! ≠ d[m - 1]!:=(of_decide_eq_true hk).resolve_left (by omega)
        have hle:d[m - 1]! ≤ d[m]!:=hd (m - 1) m (by omega) (by omega)
        have hlt:d[m - 1]! < d[m]!:=lt_tri _ _ (List.not_lt.2 hle) hne
        by_cases hj1:j=m - 1
        · rw [hj1];exact hlt
        · exact le_lt _ _ _ (hd j (m - 1) (by omega) (by omega)) hlt
      · rw [List.mem_append,List.mem_singleton,h2 x]
        constructor
        · rintro (⟨j,hj,e⟩ | e)
          · exact ⟨j,by omega,e⟩
          · exact ⟨m,by omega,e.symm⟩
        · rintro ⟨j,hj,e⟩
          by_cases hjm:j=m
          · subst hjm;exact .inr e.symm
          · exact .inl ⟨j,by omega,e⟩
theorem outL_law (l:List ByteArray):SortedS (outL l)∧∀ x,x ∈ outL l ↔ x ∈ l:=by
  have hp:(sortedL l).Pairwise (fun a b=>a ≤ b):=by
    have:=List.pairwise_mergeSort (le:=fun x y:List UInt8=>decide (x ≤ y)) (fun a b c h1 h2=>decide_eq_true (List.le_trans (of_decide_eq_true h1) (of_decide_eq_true h2))) (fun a b=>by
      rw [Bool.or_eq_true,decide_eq_true_eq,decide_eq_true_eq];exact List.le_total a b) (bytesL l)
    exact this.imp fun h=>of_decide_eq_true h
  have hd:∀ i j,i < j → j < (sortedL l).toArray.size → (sortedL l).toArray[i]! ≤ (sortedL l).toArray[j]!:=by
    intro i j hij hj
    have hj':j < (sortedL l).length:=by simpa using hj
    have:=List.pairwise_iff_getElem.1 hp i j (by omega) hj' hij
    simpa [getElem!_pos,hj',show i < (sortedL l).length by omega] using this
  obtain ⟨h1,h2⟩:=comp_law (sortedL l).toArray hd (sortedL l).length (by simp)
  constructor
  · unfold SortedS outL
    rw [List.pairwise_map]
    exact h1
  · intro x
    unfold outL
    rw [List.mem_map]
    have hm:∀ y:List UInt8,y ∈ Lib.compact (sortedL l) ↔ y ∈ bytesL l:=by
      intro y
      unfold Lib.compact
      rw [h2 y]
      have:y ∈ sortedL l ↔ y ∈ bytesL l:=by unfold sortedL;exact List.mem_mergeSort
      rw [← this,List.mem_iff_getElem]
      constructor
      · rintro ⟨j,hj,e⟩
        exact ⟨j,hj,by simpa [getElem!_pos,hj] using e⟩
      · rintro ⟨j,hj,e⟩
        exact ⟨j,hj,by simpa [getElem!_pos,hj] using e⟩
    constructor
    · rintro ⟨y,hy,rfl⟩
      obtain ⟨b,hb,rfl⟩:=List.mem_map.1 ((hm y).1 hy)
      exact hb
    · intro hx
      exact ⟨x.data.toList,(hm _).2 (List.mem_map.2 ⟨x,hx,rfl⟩),rfl⟩
theorem outL_same (l:List ByteArray) (a:List ByteArray) (h:SortedS a) (hm:∀ x,x ∈ a ↔ x ∈ l):a=outL l:=by
  obtain ⟨h1,h2⟩:=outL_law l
  exact sorted_uniq a _ h h1 fun x=>(hm x).trans (h2 x).symm
theorem outL_congr (l m:List ByteArray) (h:∀ x,x ∈ l ↔ x ∈ m):outL l=outL m:=by
  obtain ⟨h1,h2⟩:=outL_law l
  exact outL_same m _ h1 fun x=>(h2 x).trans (h x)
end Go.Proofs.YtjnafjgonoficaaGreatDoor
namespace Go.Proofs.YtjnafjgonoficaaGreatDoor
open Go.RowKit
namespace Lx
theorem nm_empty (b:ByteArray) (h:b.toList.isEmpty=true):b.data.toList=[]:=by
  rw [← Lib.toList_data]
  exact List.isEmpty_iff.1 h
theorem em0:(⟨#[]⟩:ByteArray).toList.isEmpty=true:=by rw [Lib.toList_data];rfl
theorem cond_names (t:Tok):askR t=(match condOf t with | some c=>c.names | none=>[]):=by
  unfold askR condOf
  cases hE:isExpr (kindOf t)
  · cases hD:isDfn (kindOf t)
    · rfl
    · rw [if_neg Bool.false_ne_true,if_neg Bool.false_ne_true,if_pos rfl,if_pos rfl]
      show _=(if (nameD (wdOf t)).toList.isEmpty=true then [] else [nameD (wdOf t)])
      have hok:=wdOf_ok t
      rcases hw:wdOf t with _ | ⟨a,_ | ⟨u,r⟩⟩
      · show ([]:List ByteArray)=(if (⟨#[]⟩:ByteArray).toList.isEmpty=true then [] else [(⟨#[]⟩:ByteArray)])
        rw [if_pos em0]
      · show ([]:List ByteArray)=(if (⟨#[]⟩:ByteArray).toList.isEmpty=true then [] else [(⟨#[]⟩:ByteArray)])
        rw [if_pos em0]
      · rw [hw] at hok
        have hu:=hok u (by simp)
        show (if u.k=1 then [u.t] else [])=(if (if u.k=1 then u.t else ⟨#[]⟩:ByteArray).toList.isEmpty=true then [] else [if u.k=1 then u.t else ⟨#[]⟩])
        by_cases h1:u.k=1
        · rw [if_pos h1,if_pos h1,if_neg fun h=>hu.name h1 (nm_empty _ h)]
        · rw [if_neg h1,if_neg h1,if_pos em0]
  · rw [if_pos rfl,if_pos rfl]
    show _=namesW (wdOf t).tail
    rw [List.drop_one]
theorem names_mem (L:List Tok) (h:(groups (L.map kindOf)).2.1=0) (x:ByteArray):x ∈ askGs L (groups (L.map kindOf)).1 ↔ x ∈ L.flatMap askR:=by
  obtain ⟨hsh,hcov⟩:=groups_form (L.map kindOf) h
  unfold askGs askG
  constructor
  · intro hx
    obtain ⟨g,hg,hx⟩:=List.mem_flatMap.1 hx
    obtain ⟨c,hc,hx⟩:=List.mem_flatMap.1 hx
    obtain ⟨t,ht,e⟩:=condsL_mem L _ c hc
    refine List.mem_flatMap.2 ⟨t,ht,?_⟩
    rw [cond_names,e]
    exact hx
  · intro hx
    obtain ⟨t,ht,hx⟩:=List.mem_flatMap.1 hx
    rw [cond_names] at hx
    cases hc:condOf t with
    | none=>rw [hc] at hx;cases hx
    | some c =>
      rw [hc] at hx
      obtain ⟨j,hj⟩:=List.mem_iff_getElem?.1 ht
      have hjl:=(List.getElem?_eq_some_iff.1 hj).1
      have hk:=kAt_map L (j:Int) t (by rw [Int.toNat_natCast];exact hj)
      have hkind:opens (kindOf t)=true ∨ ((kindOf t).toList == sElif)=true:=by
        unfold condOf at hc
        cases hE:isExpr (kindOf t)
        · cases hD:isDfn (kindOf t)
          · rw [hE,hD] at hc;cases hc
          · left
            unfold isDfn at hD
            unfold opens sIf sIfdef sIfndef
            rw [Bool.or_assoc,hD,Bool.or_true]
        · unfold isExpr at hE
          rw [Bool.or_eq_true] at hE
          rcases hE with hE | hE
          · left
            unfold opens sIf
            rw [hE];rfl
          · exact .inr hE
      obtain ⟨g,hg,hm⟩:=hcov j (by rw [List.length_map];exact hjl) (by rw [hk];exact hkind)
      refine List.mem_flatMap.2 ⟨g,hg,List.mem_flatMap.2 ⟨c,?_,hx⟩⟩
      have hne:((kindOf t).toList == sEndif)=false:=by
        cases he:((kindOf t).toList == sEndif) with
        | false=>rfl
        | true =>
          have he:=beq_iff_eq.1 he
          rcases hkind with h1 | h1
          · unfold opens at h1
            rw [he] at h1
            exact absurd h1 (by decide)
          · rw [he] at h1
            exact absurd h1 (by decide)
      obtain ⟨y,cs,z,-,-,h3,-,hl⟩:=hsh g hg
      have hjz:(j:Int) ≠ z:=by
        intro e
        rw [← e,hk,hne] at h3
        cases h3
      have hin:(j:Int) ∈ g.lines.take (g.lines.length - 1):=by
        rcases hl with hl | ⟨u,-,hl⟩
        · rw [hl] at hm ⊢
          rw [show (y :: cs ++ [z]).length - 1=(y :: cs).length by simp,List.take_left]
          rcases List.mem_append.1 hm with hm | hm
          · exact hm
          · exact absurd (List.mem_singleton.1 hm) hjz
        · rw [hl] at hm ⊢
          rw [show y :: cs ++ [u,z]=(y :: cs ++ [u]) ++ [z] by simp] at hm ⊢
          rw [show ((y :: cs ++ [u]) ++ [z]).length - 1=(y :: cs ++ [u]).length by simp,List.take_left]
          rcases List.mem_append.1 hm with hm | hm
          · exact hm
          · exact absurd (List.mem_singleton.1 hm) hjz
      unfold condsL
      exact List.mem_filterMap.2 ⟨(j:Int),hin,by rw [Int.toNat_natCast,hj];exact hc⟩
end Lx
theorem names_same (L:List Lx.Tok) (h:(Lx.groups (L.map Lx.kindOf)).2.1=0):outL (Lx.askGs L (Lx.groups (L.map Lx.kindOf)).1)=outL (L.flatMap Lx.askR):=outL_congr _ _ (Lx.names_mem L h)
theorem names_calls (v:Value) (L:List Lx.Tok) (w:World) (hT:Tks w v L) (hlen:L.length ≤ 3001) (hs3:∀ t ∈ L,t.t.size ≤ 3000) (hL:Laid w) (hE:(Lx.groups (L.map Lx.kindOf)).2.1=0) :
    Calls Tryz.prog 32 #[v] w fun e w' => ∃ rv,e=.returned (.tuple #[rv,.int .i64 0])∧w'.ownsRow w.heap.size 9 1 rv (outL (L.flatMap Lx.askR)).length (strCells (outL (L.flatMap Lx.askR)))∧Below w.heap.size w w':=by
  rw [← names_same L hE]
  refine names_ok v L w hT hlen hs3 hL hE _ fun W base sv l hl hln ho => ?_
  subst hl
  exact sort_names W base sv _ hln ho
theorem refnames_calls (v:Value) (L:List Lx.Tok) (w:World) (hT:Tks w v L) (hlen:L.length ≤ 30000) (hs3:∀ t ∈ L,t.t.size ≤ 3000) (hE:(Lx.groups (L.map Lx.kindOf)).2.1=0) :
    Calls Tryz.prog 33 #[v] w fun e w' => ∃ rv,e=.returned (.tuple #[rv,.int .i64 0])∧w'.ownsRow w.heap.size 9 1 rv (outL (L.flatMap Lx.askR)).length (strCells (outL (L.flatMap Lx.askR)))∧Below w.heap.size w w' :=
  refnames_ok v L w hT hlen hs3 hE _ fun W base sv ho hln=>sorted_calls base _ sv _ W ho rfl hln _ fun acc h1 h2=>outL_same _ acc h1 h2
end Go.Proofs.YtjnafjgonoficaaGreatDoor
