/-
  What the reference's holds comes to. Conditions: the definitions lie in memory; the token is short, its kind one with a condition.
  The reference's state on its way to the groups, in memory, and how it is kept. Conditions: none.
-/
import Derived.WalkSmall
import Derived.Test.YtjnafjgonoficaaGreatDoorF18
import Derived.Test.YtjnafjgonoficaaGreatDoorF08
set_option linter.unusedVariables false
set_option linter.unusedSimpArgs false
namespace Go.Proofs.YtjnafjgonoficaaGreatDoor
open Go.RowKit Go.Proofs.YtjnafjgonoficaaGreatDoorW.PrintWords
theorem tks_any {W:World} {A:Option Addr} {R:Nat} {r:List Lx.Tok} (hR:r.length=R) (h0:R=0):Tks W (.slice A R 0) r:=⟨A,0,by rw [hR],by omega,Nat.zero_le _,.inl (List.eq_nil_of_length_eq_zero (hR.trans h0))⟩
theorem tks_tail {W:World} {base g c R:Nat} {w0:Lx.Tok} {r:List Lx.Tok} (h:W.ownsRow base 29 4 (.slice (some ⟨g,0,none⟩) (R + 1) c) (R + 1) (tokCells (w0 :: r))) (hR:r.length=R):Tks W (.slice (some ⟨g,4,none⟩) R (c - 1)) r:=by
  subst hR
  have h1:=(own_tks (L:=w0 :: r) h).tail
  rw [Nat.zero_add] at h1
  exact h1
set_option maxRecDepth 100000 in
set_option maxHeartbeats 8000000 in
theorem refexpr_calls (t:Lx.Tok) (dv:Value) (defs:List (ByteArray × ByteArray)) (w:World) (hts:t.t.size ≤ 20000) (hD:Dfs w dv defs) (hE:Lx.isExpr (Lx.kindOf t)=true) :
    Calls Tryz.prog 56 #[tokV t,dv] w fun e w'=>e=.returned (.bool ((Lx.evR Lx.numB (Lx.valOf defs) (Lx.wdOf t).tail).1 != 0))∧Below w.heap.size w w':=by
  obtain ⟨w0,r,p,hw,-,-,-⟩:=Lx.expr_words t hE
  have hB0:Below w.heap.size w (w.alloc (.cells #[.int .i64 t.k,.string t.b,.string t.t,.int .i64 t.a] 29)):=(Below.refl _ _).alloc (Nat.le_refl _) _
  have HB0:=mkA hB0
  have hx0:=blk_new w (.cells #[.int .i64 t.k,.string t.b,.string t.t,.int .i64 t.a] 29)
  have e0:(w.alloc (.cells #[.int .i64 t.k,.string t.b,.string t.t,.int .i64 t.a] 29)).cell? ⟨w.heap.size,0,none⟩=some (.int .i64 t.k):=by rw [blk_cell hx0];rfl
  have e1:(w.alloc (.cells #[.int .i64 t.k,.string t.b,.string t.t,.int .i64 t.a] 29)).cell? ⟨w.heap.size,1,none⟩=some (.string t.b):=by rw [blk_cell hx0];rfl
  have e2:(w.alloc (.cells #[.int .i64 t.k,.string t.b,.string t.t,.int .i64 t.a] 29)).cell? ⟨w.heap.size,2,none⟩=some (.string t.t):=by rw [blk_cell hx0];rfl
  have e3:(w.alloc (.cells #[.int .i64 t.k,.string t.b,.string t.t,.int .i64 t.a] 29)).cell? ⟨w.heap.size,3,none⟩=some (.int .i64 t.a):=by rw [blk_cell hx0];rfl
  have hwd:∀ W,Below w.heap.size w W → Calls Tryz.prog 12 #[tokV t] W fun e w' => ∃ v,e=.returned (.tuple #[v,.int .i64 (if Lx.isDir t=true then 0 else 3)])∧w'.ownsRow W.heap.size 29 4 v (Lx.wdOf t).length (tokCells (Lx.wdOf t))∧Below W.heap.size W w':=fun W hb=>refWords_calls t W hts
  have hkd:∀ W,Below w.heap.size w W → Calls Tryz.prog 14 #[tokV t] W fun e w'=>e=.returned (.string (Lx.kindOf t))∧Below W.heap.size W w':=fun W hb=>refKind_calls t W hts
  unfold tokV at hwd hkd
  obtain ⟨er,her⟩:∃ er:Int,(if Lx.isDir t=true then 0 else 3)=er:=⟨_,rfl⟩
  rw [her] at hwd
  have hNl:=Lx.wdOf_len t
  have hok:=Lx.wdOf_ok t
  obtain ⟨N,hN⟩:∃ N,(Lx.wdOf t).length=N:=⟨_,rfl⟩
  rw [hN] at hNl
  have hD1:=hD
  obtain ⟨DA,DC,rfl,-⟩:=hD1
  obtain ⟨dn,hdn⟩:∃ dn,defs.length=dn:=⟨_,rfl⟩
  rw [hdn] at hD ⊢
  have HD:=mkA hD
  have hev:∀ W A c,Below w.heap.size w W → Tks W (.slice A r.length c) r → Calls Tryz.prog 52 #[.slice A r.length c,.slice DA dn DC] W fun e w'=>e=.returned (.tuple #[.int .i64 (Lx.evR Lx.numB (Lx.valOf defs) r).1,.bool (Lx.evR Lx.numB (Lx.valOf defs) r).2])∧Below W.heap.size W w':=by
    intro W A c hb ht
    exact refeval_any W A r.length c _ r defs (t.t.size + 1) (by omega) ht (by rw [hw,List.length_cons] at hN;omega) (fun x hx=>hok x (by rw [hw];exact List.mem_cons_of_mem _ hx)) (hD.below hb)
  have hu0:(Lx.wdOf t)[0]? = some w0:=by rw [hw];rfl
  have htl:(Lx.wdOf t).tail=r:=by rw [hw];rfl
  rw [htl]
  unfold tokV
  obtain ⟨K,hK⟩:∃ K,Lx.kindOf t=K:=⟨_,rfl⟩
  obtain ⟨ws,hws⟩:∃ ws,Lx.wdOf t=ws:=⟨_,rfl⟩
  rw [hK] at hkd hE
  rw [hws] at hwd hN hw hu0
  obtain ⟨R,hR⟩:∃ R,r.length=R:=⟨_,rfl⟩
  have hNR:N=R + 1:=by rw [← hN,hw,List.length_cons,hR]
  subst hNR
  rw [hR] at hev
  obtain ⟨V,hV⟩:∃ V,Lx.evR Lx.numB (Lx.valOf defs) r=V:=⟨_,rfl⟩
  rw [hV] at hev ⊢
  obtain ⟨v1,v2⟩:=V
  dsimp only at hev ⊢
  have HWD:=mkA hwd
  have HKD:=mkA hkd
  have HWN:=mkA hN
  have HU:=mkA hu0
  have HEV:=mkA hev
  have HR:=mkA hR
  have HWS:=mkA hw
  obtain ⟨qe,hqe⟩:∃ qe,(K.toList == [105,102])=qe:=⟨_,rfl⟩
  have hqe2:(K.toList == [101,108,105,102]) = !qe:=by
    unfold Lx.isExpr at hE
    rw [hqe] at hE
    cases qe
    · rw [Bool.false_or] at hE;exact hE
    · rw [beq_iff_eq.mp hqe];rfl
  clear hB0 hx0 hwd hkd her hok hD hdn hev hu0 htl hK hws hw hR hV hN hE hts
  cases qe
  all_goals
    go_enter Tryz.func56,Tryz.ntmps56
    go_wp2_with (first | (go_at_call 12;(refine (HWD.out _ HB0.out).mono ?_);rintro e w2 ⟨v2,rfl,hown2,hb2⟩;have hown2:=own_cast hown2 HWN.out;(obtain ⟨g2,cp2,rfl,hcp2,hg2b,hg2l,o0,o1,o2,o3⟩:=own_at hown2 HWN.out HU.out);have HO2:=mkA hown2;have HB2:=mkA (HB0.out.trans (hb2.mono HB0.out.size));have k0:=(hb2.cell (p:=⟨w.heap.size,0,none⟩) (show w.heap.size < _ by simp)).trans e0;have k1:=(hb2.cell (p:=⟨w.heap.size,1,none⟩) (show w.heap.size < _ by simp)).trans e1;have k2:=(hb2.cell (p:=⟨w.heap.size,2,none⟩) (show w.heap.size < _ by simp)).trans e2;have k3:=(hb2.cell (p:=⟨w.heap.size,3,none⟩) (show w.heap.size < _ by simp)).trans e3;have hwl2:w.heap.size < w2.heap.size:=Nat.lt_of_lt_of_le (by simp) hb2.size;simp only [Nat.one_mul,Nat.zero_mul,Nat.zero_add] at o0 o1 o2 o3;clear hown2 hb2) | (go_at_call 14;(refine (HKD.out _ HB2.out).mono ?_);rintro e w3 ⟨rfl,hb3⟩;have c0:=(hb3.cell hg2l).trans o0;have c1:=(hb3.cell hg2l).trans o1;have c2:=(hb3.cell hg2l).trans o2;have c3:=(hb3.cell hg2l).trans o3;have hg3l:g2 < w3.heap.size:=Nat.lt_of_lt_of_le hg2l hb3.size;have HO3:=mkA (own_kept_no HO2.out (grown_below (World.grownBy.refl _ none) hb3));have HB3:=mkA (HB2.out.trans (hb3.mono HB2.out.size));clear hb3 o0 o1 o2 o3) | (go_at_call 52;(refine (HEV.out _ _ _ HB3.out (by first | exact tks_tail (HWS.out ▸ HO3.out) HR.out | exact tks_any HR.out (by omega))).mono ?_);rintro e w4 ⟨rfl,hb4⟩;have HB4:=mkA (HB3.out.trans (hb4.mono HB3.out.size));clear hb4))
    all_goals go_ret
    all_goals exact ⟨rfl,HB4.out⟩
theorem calc_rc (W:World) (dv:Value):RC W (W.alloc (.cells #[.slice none 0 0,.int .i64 0,.bool false,dv] 124)) none 0 0 dv [] ⟨[],false⟩:=by
  refine ⟨⟨none,0,rfl,Nat.le_refl _,Nat.zero_le _,.inl rfl⟩,0,Nat.le_refl _,rfl,?_,(Below.refl _ _).alloc (Nat.le_refl _) _⟩
  exact blk_new W _
set_option maxRecDepth 100000 in
set_option maxHeartbeats 8000000 in
theorem refdfn_calls (t:Lx.Tok) (dv:Value) (defs:List (ByteArray × ByteArray)) (w:World) (hts:t.t.size ≤ 20000) (hD:Dfs w dv defs) (hE:Lx.isExpr (Lx.kindOf t)=false) (hDf:Lx.isDfn (Lx.kindOf t)=true) :
    Calls Tryz.prog 56 #[tokV t,dv] w fun e w'=>e=.returned (.bool ((match Lx.wdOf t with | _ :: u :: _=>if u.k=1 then (Lx.valOf defs u.t).2 else false | _=>false) == ((Lx.kindOf t).toList == [105,102,100,101,102])))∧Below w.heap.size w w':=by
  obtain ⟨-,w0,r,hw,-⟩:=Lx.kind_first t (.inr hDf)
  have hB0:Below w.heap.size w (w.alloc (.cells #[.int .i64 t.k,.string t.b,.string t.t,.int .i64 t.a] 29)):=(Below.refl _ _).alloc (Nat.le_refl _) _
  have HB0:=mkA hB0
  have hx0:=blk_new w (.cells #[.int .i64 t.k,.string t.b,.string t.t,.int .i64 t.a] 29)
  have e0:(w.alloc (.cells #[.int .i64 t.k,.string t.b,.string t.t,.int .i64 t.a] 29)).cell? ⟨w.heap.size,0,none⟩=some (.int .i64 t.k):=by rw [blk_cell hx0];rfl
  have e1:(w.alloc (.cells #[.int .i64 t.k,.string t.b,.string t.t,.int .i64 t.a] 29)).cell? ⟨w.heap.size,1,none⟩=some (.string t.b):=by rw [blk_cell hx0];rfl
  have e2:(w.alloc (.cells #[.int .i64 t.k,.string t.b,.string t.t,.int .i64 t.a] 29)).cell? ⟨w.heap.size,2,none⟩=some (.string t.t):=by rw [blk_cell hx0];rfl
  have e3:(w.alloc (.cells #[.int .i64 t.k,.string t.b,.string t.t,.int .i64 t.a] 29)).cell? ⟨w.heap.size,3,none⟩=some (.int .i64 t.a):=by rw [blk_cell hx0];rfl
  have hwd:∀ W,Below w.heap.size w W → Calls Tryz.prog 12 #[tokV t] W fun e w' => ∃ v,e=.returned (.tuple #[v,.int .i64 (if Lx.isDir t=true then 0 else 3)])∧w'.ownsRow W.heap.size 29 4 v (Lx.wdOf t).length (tokCells (Lx.wdOf t))∧Below W.heap.size W w':=fun W hb=>refWords_calls t W hts
  have hkd:∀ W,Below w.heap.size w W → Calls Tryz.prog 14 #[tokV t] W fun e w'=>e=.returned (.string (Lx.kindOf t))∧Below W.heap.size W w':=fun W hb=>refKind_calls t W hts
  unfold tokV at hwd hkd
  obtain ⟨er,her⟩:∃ er:Int,(if Lx.isDir t=true then 0 else 3)=er:=⟨_,rfl⟩
  rw [her] at hwd
  have hNl:=Lx.wdOf_len t
  have hok:=Lx.wdOf_ok t
  obtain ⟨N,hN⟩:∃ N,(Lx.wdOf t).length=N:=⟨_,rfl⟩
  rw [hN] at hNl
  have hD1:=hD
  obtain ⟨DA,DC,rfl,-⟩:=hD1
  obtain ⟨dn,hdn⟩:∃ dn,defs.length=dn:=⟨_,rfl⟩
  rw [hdn] at hD ⊢
  have HD:=mkA hD
  unfold tokV
  obtain ⟨K,hK⟩:∃ K,Lx.kindOf t=K:=⟨_,rfl⟩
  obtain ⟨ws,hws⟩:∃ ws,Lx.wdOf t=ws:=⟨_,rfl⟩
  rw [hK] at hkd hE hDf ⊢
  rw [hws] at hwd hN hw hok ⊢
  have HWD:=mkA hwd
  have HKD:=mkA hkd
  have HWN:=mkA hN
  have hE1:(K.toList == [105,102])=false:=by unfold Lx.isExpr at hE;rw [Bool.or_eq_false_iff] at hE;exact hE.1
  have hE2:(K.toList == [101,108,105,102])=false:=by unfold Lx.isExpr at hE;rw [Bool.or_eq_false_iff] at hE;exact hE.2
  obtain ⟨q,hq⟩:∃ q,(K.toList == [105,102,100,101,102])=q:=⟨_,rfl⟩
  rw [hq]
  clear hB0 hx0 hwd hkd her hdn hK hws hE hDf hts
  cases r with
  | nil =>
    subst hw
    have hu0:[w0][0]? = some w0:=rfl
    have HU:=mkA hu0
    obtain rfl:N=1:=by rw [← hN];rfl
    clear hu0 hN hok hD
    cases q
    all_goals
      go_enter Tryz.func56,Tryz.ntmps56
      go_wp2_with (first | (go_at_call 12;(refine (HWD.out _ HB0.out).mono ?_);rintro e w2 ⟨v2,rfl,hown2,hb2⟩;have hown2:=own_cast hown2 HWN.out;(obtain ⟨g2,cp2,rfl,hcp2,hg2b,hg2l,o0,o1,o2,o3⟩:=own_at hown2 HWN.out HU.out);have HO2:=mkA hown2;have HB2:=mkA (HB0.out.trans (hb2.mono HB0.out.size));have k0:=(hb2.cell (p:=⟨w.heap.size,0,none⟩) (show w.heap.size < _ by simp)).trans e0;have k1:=(hb2.cell (p:=⟨w.heap.size,1,none⟩) (show w.heap.size < _ by simp)).trans e1;have k2:=(hb2.cell (p:=⟨w.heap.size,2,none⟩) (show w.heap.size < _ by simp)).trans e2;have k3:=(hb2.cell (p:=⟨w.heap.size,3,none⟩) (show w.heap.size < _ by simp)).trans e3;have hwl2:w.heap.size < w2.heap.size:=Nat.lt_of_lt_of_le (by simp) hb2.size;simp only [Nat.one_mul,Nat.zero_mul,Nat.zero_add] at o0 o1 o2 o3;clear hown2 hb2) | (go_at_call 14;(refine (HKD.out _ HB2.out).mono ?_);rintro e w3 ⟨rfl,hb3⟩;have c0:=(hb3.cell hg2l).trans o0;have c1:=(hb3.cell hg2l).trans o1;have c2:=(hb3.cell hg2l).trans o2;have c3:=(hb3.cell hg2l).trans o3;have hg3l:g2 < w3.heap.size:=Nat.lt_of_lt_of_le hg2l hb3.size;have HO3:=mkA (own_kept_no HO2.out (grown_below (World.grownBy.refl _ none) hb3));have HB3:=mkA (HB2.out.trans (hb3.mono HB2.out.size));clear hb3 o0 o1 o2 o3))
      go_ret
      exact ⟨rfl,HB3.out⟩
  | cons u r =>
    subst hw
    have hu0:(w0 :: u :: r)[1]? = some u:=rfl
    have HU:=mkA hu0
    have h1N:(1:Int) < (N:Int):=by rw [← hN];simp only [List.length_cons];omega
    have h1N2:1 < N:=by omega
    have hfv:∀ W,Below w.heap.size w W → Calls Tryz.prog 92 #[.pointer (some ⟨W.heap.size,0,none⟩),.string u.t] (W.alloc (.cells #[.slice none 0 0,.int .i64 0,.bool false,.slice DA dn DC] 124)) fun e w'=>e=.returned (.tuple #[.int .i64 (Lx.valOf defs u.t).1,.bool (Lx.valOf defs u.t).2])∧w'=(W.alloc (.cells #[.slice none 0 0,.int .i64 0,.bool false,.slice DA dn DC] 124)) :=
      fun W hb=>refval_calls W _ none 0 0 _ [] ⟨[],false⟩ defs u.t (calc_rc W _) (hD.below hb)
    show Calls _ _ _ _ fun e w'=>e=.returned (.bool ((if u.k=1 then (Lx.valOf defs u.t).2 else false) == q))∧_
    obtain ⟨V,hV⟩:∃ V,Lx.valOf defs u.t=V:=⟨_,rfl⟩
    rw [hV] at hfv ⊢
    obtain ⟨v1,v2⟩:=V
    dsimp only at hfv ⊢
    have HFV:=mkA hfv
    obtain ⟨uk,huk⟩:∃ uk,(u.k == 1)=uk:=⟨_,rfl⟩
    clear hu0 hN hok hD hfv hV
    cases uk
    · rw [if_neg (beq_eq_false_iff_ne.mp huk)]
      cases q
      all_goals
        go_enter Tryz.func56,Tryz.ntmps56
        go_wp2_with (first | (go_at_call 12;(refine (HWD.out _ HB0.out).mono ?_);rintro e w2 ⟨v2,rfl,hown2,hb2⟩;have hown2:=own_cast hown2 HWN.out;(obtain ⟨g2,cp2,rfl,hcp2,hg2b,hg2l,o0,o1,o2,o3⟩:=own_at hown2 HWN.out HU.out);have HO2:=mkA hown2;have HB2:=mkA (HB0.out.trans (hb2.mono HB0.out.size));have k0:=(hb2.cell (p:=⟨w.heap.size,0,none⟩) (show w.heap.size < _ by simp)).trans e0;have k1:=(hb2.cell (p:=⟨w.heap.size,1,none⟩) (show w.heap.size < _ by simp)).trans e1;have k2:=(hb2.cell (p:=⟨w.heap.size,2,none⟩) (show w.heap.size < _ by simp)).trans e2;have k3:=(hb2.cell (p:=⟨w.heap.size,3,none⟩) (show w.heap.size < _ by simp)).trans e3;have hwl2:w.heap.size < w2.heap.size:=Nat.lt_of_lt_of_le (by simp) hb2.size;simp only [Nat.one_mul,Nat.zero_mul,Nat.zero_add] at o0 o1 o2 o3;clear hown2 hb2) | (go_at_call 14;(refine (HKD.out _ HB2.out).mono ?_);rintro e w3 ⟨rfl,hb3⟩;have c0:=(hb3.cell hg2l).trans o0;have c1:=(hb3.cell hg2l).trans o1;have c2:=(hb3.cell hg2l).trans o2;have c3:=(hb3.cell hg2l).trans o3;have hg3l:g2 < w3.heap.size:=Nat.lt_of_lt_of_le hg2l hb3.size;have HO3:=mkA (own_kept_no HO2.out (grown_below (World.grownBy.refl _ none) hb3));have HB3:=mkA (HB2.out.trans (hb3.mono HB2.out.size));clear hb3 o0 o1 o2 o3))
        go_ret
        exact ⟨rfl,HB3.out⟩
    · rw [if_pos (beq_iff_eq.mp huk)]
      cases v2 <;> cases q
      all_goals
        go_enter Tryz.func56,Tryz.ntmps56
        go_wp2_with (first | (go_at_call 12;(refine (HWD.out _ HB0.out).mono ?_);rintro e w2 ⟨v2,rfl,hown2,hb2⟩;have hown2:=own_cast hown2 HWN.out;(obtain ⟨g2,cp2,rfl,hcp2,hg2b,hg2l,o0,o1,o2,o3⟩:=own_at hown2 HWN.out HU.out);have HO2:=mkA hown2;have HB2:=mkA (HB0.out.trans (hb2.mono HB0.out.size));have k0:=(hb2.cell (p:=⟨w.heap.size,0,none⟩) (show w.heap.size < _ by simp)).trans e0;have k1:=(hb2.cell (p:=⟨w.heap.size,1,none⟩) (show w.heap.size < _ by simp)).trans e1;have k2:=(hb2.cell (p:=⟨w.heap.size,2,none⟩) (show w.heap.size < _ by simp)).trans e2;have k3:=(hb2.cell (p:=⟨w.heap.size,3,none⟩) (show w.heap.size < _ by simp)).trans e3;have hwl2:w.heap.size < w2.heap.size:=Nat.lt_of_lt_of_le (by simp) hb2.size;simp only [Nat.one_mul,Nat.zero_mul,Nat.zero_add] at o0 o1 o2 o3;clear hown2 hb2) | (go_at_call 14;(refine (HKD.out _ HB2.out).mono ?_);rintro e w3 ⟨rfl,hb3⟩;have c0:=(hb3.cell hg2l).trans o0;have c1:=(hb3.cell hg2l).trans o1;have c2:=(hb3.cell hg2l).trans o2;have c3:=(hb3.cell hg2l).trans o3;have hg3l:g2 < w3.heap.size:=Nat.lt_of_lt_of_le hg2l hb3.size;have HO3:=mkA (own_kept_no HO2.out (grown_below (World.grownBy.refl _ none) hb3));have HB3:=mkA (HB2.out.trans (hb3.mono HB2.out.size));clear hb3 o0 o1 o2 o3) | (go_at_call 92;(refine (HFV.out w3 HB3.out).mono ?_);rintro e w4 ⟨rfl,rfl⟩))
        go_ret
        exact ⟨rfl,HB3.out.alloc HB3.out.size _⟩
theorem holds_calls (t:Lx.Tok) (dv:Value) (defs:List (ByteArray × ByteArray)) (w:World) (hts:t.t.size ≤ 20000) (hD:Dfs w dv defs) (hk:Lx.isExpr (Lx.kindOf t)=true ∨ Lx.isDfn (Lx.kindOf t)=true) :
    Calls Tryz.prog 56 #[tokV t,dv] w fun e w'=>e=.returned (.bool (Lx.holdsT defs t))∧Below w.heap.size w w':=by
  unfold Lx.holdsT
  cases hE:Lx.isExpr (Lx.kindOf t)
  · rw [if_neg Bool.false_ne_true]
    exact refdfn_calls t dv defs w hts hD hE (hk.resolve_left (by rw [hE];exact Bool.false_ne_true))
  · rw [if_pos rfl]
    exact refexpr_calls t dv defs w hts hD hE
namespace Lx
def nums (st:List (Nat × Nat × Bool)):List Int:=st.reverse.map fun p=>(p.1:Int)
def elses (st:List (Nat × Nat × Bool)):List Bool:=st.reverse.map fun p=>p.2.2
theorem nums_cons (p:Nat × Nat × Bool) (r:List (Nat × Nat × Bool)):nums (p :: r)=nums r ++ [(p.1:Int)]:=by unfold nums;simp
theorem elses_cons (p:Nat × Nat × Bool) (r:List (Nat × Nat × Bool)):elses (p :: r)=elses r ++ [p.2.2]:=by unfold elses;simp
theorem nums_len (r:List (Nat × Nat × Bool)):(nums r).length=r.length:=by unfold nums;simp
theorem elses_len (r:List (Nat × Nat × Bool)):(elses r).length=r.length:=by unfold elses;simp
end Lx
def boolCells (l:List Bool):List Value:=l.map fun x => .bool x
theorem intCells_snoc (l:List Int) (x:Int):intCells (l ++ [x])=intCells l ++ [.int .i64 x]:=by unfold intCells;rw [List.map_append];rfl
theorem boolCells_snoc (l:List Bool) (x:Bool):boolCells (l ++ [x])=boolCells l ++ [.bool x]:=by unfold boolCells;rw [List.map_append];rfl
def RSc (w:World) (base:Nat) (u7 u8 u9:Value) (S:Lx.GS) (ls:List Value):Prop:=ls.length=S.gs.length∧w.ownsRow base 42 4 u7 S.gs.length (gcells ls S.gs)∧RowsAt w base ls S.gs ∧
  w.ownsRow base 3 1 u8 S.st.length (intCells (Lx.nums S.st))∧w.ownsRow base 4 1 u9 S.st.length (boolCells (Lx.elses S.st))∧∀ (i:Nat) (l:Value),ls[i]? = some l → l.ownBlock ≠ u8.ownBlock
def RS (w:World) (base:Nat) (u7 u8 u9:Value) (S:Lx.GS):Prop:=∃ ls,RSc w base u7 u8 u9 S ls
theorem RSc.no {w w':World} {base:Nat} {u7 u8 u9:Value} {S:Lx.GS} {ls:List Value} (h:RSc w base u7 u8 u9 S ls) (hg:w.grownBy w' none):RSc w' base u7 u8 u9 S ls:=by
  obtain ⟨h1,h2,h3,h4,h5,h6⟩:=h
  exact ⟨h1,own_kept_no h2 hg,h3.no hg,own_kept_no h4 hg,own_kept_no h5 hg,h6⟩
theorem rs_push {w w1 w2 w3:World} {base i R0:Nat} {u7 u8 u9 v7 v8 v9:Value} {par bch br:Int} {S:Lx.GS} {ls:List Value} (h:RSc w base u7 u8 u9 S ls) (hb:base ≤ R0) (HR:w.heap[R0]? = some (.cells #[.int .i64 i] 3 (0,0)))
    (hn1:∀ (i:Nat) (l:Value),ls[i]? = some l → l.ownBlock ≠ some R0) (hn2:u8.ownBlock ≠ some R0)
    (h1:w1.ownsRow base 3 1 v8 (S.st.length + 1) (intCells (Lx.nums S.st) ++ [.int .i64 S.gs.length])) (g1:w.grownBy w1 u8.ownBlock) (a1:v8.ownBlock=u8.ownBlock ∨ ∃ b,v8.ownBlock=some b∧w.heap.size ≤ b)
    (h2:w2.ownsRow base 4 1 v9 (S.st.length + 1) (boolCells (Lx.elses S.st) ++ [.bool false])) (g2:w1.grownBy w2 u9.ownBlock)
    (h3:w3.ownsRow base 42 4 v7 (S.gs.length + 1) (gcells ls S.gs ++ [.slice (some ⟨R0,0,none⟩) 1 1,.int .i64 br,.int .i64 par,.int .i64 bch])) (g3:w2.grownBy w3 u7.ownBlock) :
    RS w3 base v7 v8 v9 ⟨S.gs ++ [⟨[(i:Int)],br,par,bch⟩],(S.gs.length,0,false) :: S.st⟩:=by
  obtain ⟨hl,o7,hr,o8,o9,hd⟩:=h
  have o71:=own_kept_row o7 o8 g1 (by decide)
  have o91:=own_kept_row o9 o8 g1 (by decide)
  have o72:=own_kept_row o71 o91 g2 (by decide)
  have h12:=own_kept_row h1 o91 g2 (by decide)
  have h13:=own_kept_row h12 o72 g3 (by decide)
  have h23:=own_kept_row h2 o72 g3 (by decide)
  have r1:RowsAt w1 base ls S.gs:=⟨fun j l g e1 e2=>⟨(hr.1 j l g e1 e2).1,(hr.1 j l g e1 e2).2.kept g1 (.inr (hd j l e1))⟩,hr.2⟩
  have r3:=(r1.row o91 g2 (by decide)).row o72 g3 (by decide)
  have R1:=(g1.block R0 (blk_lt HR) (fun e=>hn2 e.symm)).trans HR
  have R2:=(g2.block R0 (blk_lt R1) (own_ne o91 R1 (by decide))).trans R1
  have R3:=(g3.block R0 (blk_lt R2) (own_ne o72 R2 (by decide))).trans R2
  refine ⟨ls ++ [.slice (some ⟨R0,0,none⟩) 1 1],by simp [hl],?_,?_,?_,?_,?_⟩
  · rw [gcells_push ls S.gs _ _ hl]
    simpa using h3
  · refine r3.push hl (by simp) ⟨rfl,.inr ⟨R0,1,_,rfl,hb,R3,by simp,by unfold maxLen;omega,rfl,rfl⟩⟩ (fun j l e => ?_)
    exact hn1 j l e
  · dsimp only
    rw [Lx.nums_cons,intCells_snoc]
    exact h13
  · dsimp only
    rw [Lx.elses_cons,boolCells_snoc]
    exact h23
  · intro j l e
    by_cases hj:j < ls.length
    · rw [List.getElem?_append_left hj] at e
      rcases a1 with a1 | ⟨b,a1,hb1⟩
      · rw [a1];exact hd j l e
      · rw [a1];intro e2
        have hj2:j < S.gs.length:=by omega
        have:=own_lt (hr.1 j l _ e (List.getElem?_eq_getElem hj2)).2 _ e2
        omega
    · rw [List.getElem?_append_right (by omega)] at e
      have hj0:j - ls.length=0:=by
        have:=(List.getElem?_eq_some_iff.1 e).1
        simp at this;omega
      rw [hj0] at e
      simp at e
      subst e
      intro e2
      have e3:v8.ownBlock=some R0:=e2.symm
      rcases a1 with a1 | ⟨b,a1,hb1⟩
      · exact hn2 (a1.symm.trans e3)
      · rw [a1] at e3
        have:=Option.some.inj e3
        have:=blk_lt HR
        omega
theorem rs_line {w w1:World} {base gb N c n:Nat} {S:Lx.GS} {u8 u9 lv v1:Value} {ls:List Value} {g:Lx.G} {i:Int} (h:RSc w base (.slice (some ⟨gb,0,none⟩) N c) u8 u9 S ls) (hm:ls[n]? = some lv) (hg:S.gs[n]? = some g)
    (hw:w.grownBy w1 lv.ownBlock) (ho:w1.ownsRow base 3 1 v1 (g.lines.length + 1) (intCells g.lines ++ [.int .i64 i])) (hat:v1.ownBlock=lv.ownBlock ∨ ∃ b,v1.ownBlock=some b∧w.heap.size ≤ b) :
    RSc (w1.setCell ⟨gb,n * 4,none⟩ v1) base (.slice (some ⟨gb,0,none⟩) N c) u8 u9 ⟨S.gs.modify n fun g=>⟨g.lines ++ [i],g.br,g.par,g.bch⟩,S.st⟩ (ls.set n v1):=by
  obtain ⟨hll,hown,hrows,o8,o9,hd⟩:=h
  have hNe:S.gs.length=N:=by
    rcases hown.2 with ⟨h',_⟩ | ⟨g',cap',cur,h',_⟩
    · simp at h'
    · simp only [Value.slice.injEq] at h';exact h'.2.1.symm
  rw [hNe] at hown
  have hlvo:=(hrows.1 n lv g hm hg).2
  have hml:n < ls.length:=(List.getElem?_eq_some_iff.1 hm).1
  have hown1:=own_kept_row hown hlvo hw (by decide)
  obtain ⟨cur1,hcur1,-⟩:=own_heap hown1
  have hset:w1.grownBy (w1.setCell ⟨gb,n * 4,none⟩ v1) (some gb):=grown_set (World.grownBy.refl _ _) _ _
  have hrows1:=hrows.grow (g':=⟨g.lines ++ [i],g.br,g.par,g.bch⟩) hll hm hg hw (by simp) (by
    rw [intCells_snoc];simpa using ho) hat
  have e2:S.gs.modify n (fun g=>⟨g.lines ++ [i],g.br,g.par,g.bch⟩)=S.gs.set n ⟨g.lines ++ [i],g.br,g.par,g.bch⟩:=by
    exact modify_set _ _ _ _ hg
  have o81:=o8.kept hw (.inr (fun e=>hd n lv hm e.symm))
  have o91:=own_kept_row o9 hlvo hw (by decide)
  refine ⟨by simp [hll],?_,?_,?_,?_,?_⟩
  · dsimp only
    rw [List.length_modify,hNe,gcells_lines v1 (fun g=>⟨g.lines ++ [i],g.br,g.par,g.bch⟩) (fun g=>⟨rfl,rfl,rfl⟩) ls S.gs n hll hml]
    exact (hown1.stored _ _).1
  · dsimp only
    rw [e2]
    exact hrows1.ty hset hcur1 (by decide)
  · exact own_kept_ty o81 hset hcur1 (by decide)
  · exact own_kept_ty o91 hset hcur1 (by decide)
  · intro j l e
    by_cases hj:j=n
    · subst hj
      rw [List.getElem?_set_self hml] at e
      cases e
      rcases hat with e2 | ⟨b,e2,hb⟩
      · rw [e2];exact hd j lv hm
      · rw [e2];intro e3
        have:=own_lt o8 _ e3.symm
        omega
    · rw [List.getElem?_set_ne (fun e=>hj e.symm)] at e
      exact hd j l e
theorem rs_br {w:World} {base gb N c n:Nat} {S:Lx.GS} {u8 u9:Value} {ls:List Value} (x:Int) (h:RSc w base (.slice (some ⟨gb,0,none⟩) N c) u8 u9 S ls) (hn:n < S.gs.length) :
    RSc (w.setCell ⟨gb,n * 4 + 1,none⟩ (.int .i64 x)) base (.slice (some ⟨gb,0,none⟩) N c) u8 u9 ⟨S.gs.modify n fun g=>⟨g.lines,x,g.par,g.bch⟩,S.st⟩ ls:=by
  obtain ⟨hll,hown,hrows,o8,o9,hd⟩:=h
  have hNe:S.gs.length=N:=by
    rcases hown.2 with ⟨h',_⟩ | ⟨g',cap',cur,h',_⟩
    · simp at h'
    · simp only [Value.slice.injEq] at h';exact h'.2.1.symm
  rw [hNe] at hown
  obtain ⟨cur,hcur,hbg⟩:=own_heap hown
  have hset:w.grownBy (w.setCell ⟨gb,n * 4 + 1,none⟩ (.int .i64 x)) (some gb):=grown_set (World.grownBy.refl _ _) _ _
  refine ⟨by simp [hll],?_,?_,own_kept_ty o8 hset hcur (by decide),own_kept_ty o9 hset hcur (by decide),hd⟩
  · dsimp only
    rw [List.length_modify,hNe,gcells_br x (fun g=>⟨g.lines,x,g.par,g.bch⟩) (fun g=>⟨rfl,rfl⟩) (fun g=>rfl) ls S.gs n hll (by omega)]
    exact (hown.stored _ _).1
  · have h1:=hrows.ty hset hcur (by decide)
    constructor
    · intro j l g h2 h3
      dsimp only at h3
      rw [List.getElem?_modify] at h3
      obtain ⟨g0,h0,rfl⟩:=Option.map_eq_some_iff.1 h3
      have:=h1.1 j l g0 h2 h0
      split
      · exact this
      · exact this
    · exact h1.2
theorem rs_else {w:World} {base g9 m c9 n b:Nat} {gs:List Lx.G} {e:Bool} {r:List (Nat × Nat × Bool)} {u7 u8:Value} {ls:List Value} (e':Bool) (b':Nat) (h:RSc w base u7 u8 (.slice (some ⟨g9,0,none⟩) m c9) ⟨gs,(n,b,e) :: r⟩ ls) :
    RSc (w.setCell ⟨g9,r.length,none⟩ (.bool e')) base u7 u8 (.slice (some ⟨g9,0,none⟩) m c9) ⟨gs,(n,b',e') :: r⟩ ls:=by
  obtain ⟨hll,hown,hrows,o8,o9,hd⟩:=h
  have hm:r.length + 1=m:=by
    rcases o9.2 with ⟨h',_⟩ | ⟨g',cap',cur,h',_⟩
    · simp at h'
    · simp only [Value.slice.injEq] at h';exact h'.2.1.symm
  subst hm
  dsimp only at hll hown hrows o8 o9 hd
  rw [List.length_cons] at o8 o9
  obtain ⟨cur,hcur,hbg⟩:=own_heap o9
  have hset:w.grownBy (w.setCell ⟨g9,r.length,none⟩ (.bool e')) (some g9):=grown_set (World.grownBy.refl _ _) _ _
  refine ⟨hll,own_kept_ty hown hset hcur (by decide),hrows.ty hset hcur (by decide),?_,?_,hd⟩
  · have:=own_kept_ty o8 hset hcur (by decide)
    dsimp only
    rw [Lx.nums_cons] at this ⊢
    exact this
  · dsimp only
    rw [List.length_cons]
    have:=(o9.stored r.length (.bool e')).1
    rw [Lx.elses_cons,boolCells_snoc,List.set_append_right _ _ (by unfold boolCells;rw [List.length_map,Lx.elses_len];exact Nat.le_refl _)] at this
    rw [Lx.elses_cons,boolCells_snoc]
    have e0:r.length - (boolCells (Lx.elses r)).length=0:=by unfold boolCells;rw [List.length_map,Lx.elses_len];omega
    rw [e0] at this
    exact this
theorem rs_pop {w:World} {base g8 c8 g9 c9 n b:Nat} {gs:List Lx.G} {e:Bool} {r:List (Nat × Nat × Bool)} {u7:Value} {ls:List Value}
    (h:RSc w base u7 (.slice (some ⟨g8,0,none⟩) (r.length + 1) c8) (.slice (some ⟨g9,0,none⟩) (r.length + 1) c9) ⟨gs,(n,b,e) :: r⟩ ls) :
    RSc w base u7 (.slice (some ⟨g8,0,none⟩) r.length c8) (.slice (some ⟨g9,0,none⟩) r.length c9) ⟨gs,r⟩ ls:=by
  obtain ⟨hll,hown,hrows,o8,o9,hd⟩:=h
  dsimp only at o8 o9
  rw [List.length_cons,Lx.nums_cons,intCells_snoc] at o8
  rw [List.length_cons,Lx.elses_cons,boolCells_snoc] at o9
  exact ⟨hll,hown,hrows,ownsRow_pop (size:=1) (xs:=intCells (Lx.nums r)) (by unfold intCells;rw [List.length_map,Lx.nums_len];omega) o8,ownsRow_pop (size:=1) (xs:=boolCells (Lx.elses r)) (by unfold boolCells;rw [List.length_map,Lx.elses_len];omega) o9,hd⟩
end Go.Proofs.YtjnafjgonoficaaGreatDoor
