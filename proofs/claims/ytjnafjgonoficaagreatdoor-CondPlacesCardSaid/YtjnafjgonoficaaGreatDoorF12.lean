/-
  The evaluator's state read and turned by hand; 'defined'. Conditions: the evaluator's block is its own; what numbers and names come to is known.
  What the evaluator's operators with two sides come to. Conditions: the evaluator's block is its own; what its operands come to is known.
  What the evaluator's operands come to. Conditions: the evaluator's block is its own; what numbers and names come to is known.
  What 'defined' comes to. Conditions: the evaluator's block is its own; what names come to is known.
  The evaluator's binary at whatever fuel, from what its 'one' comes to. Conditions: what numbers and names come to is known.
  The signs ahead of an operand, plainly. No program in sight. Conditions: none.
  The evaluator, plainly: more fuel changes nothing, and there is fuel enough for every list of words; what is left is never longer. No program in sight. Conditions: none.
-/
import Derived.Test.YtjnafjgonoficaaGreatDoorF10
set_option linter.unusedVariables false
set_option linter.unusedSimpArgs false
namespace Go.Proofs.YtjnafjgonoficaaGreatDoor
open Go.RowKit Go.Proofs.YtjnafjgonoficaaGreatDoorW.PrintWords
def AllP (P:Lx.Tok → Prop) (l:List Lx.Tok):Prop:=(∀ t ∈ l,P t)∧l.length ≤ 100000
theorem AllP.tail {P:Lx.Tok → Prop} {l:List Lx.Tok} (h:AllP P l):AllP P l.tail:=⟨fun t ht=>h.1 t (List.mem_of_mem_tail ht),by have:=h.2;rw [List.length_tail];omega⟩
theorem AllP.rest {P:Lx.Tok → Prop} {t:Lx.Tok} {r:List Lx.Tok} (h:AllP P (t :: r)):AllP P r:=h.tail
def EVP (P:Lx.Tok → Prop) (w0 w:World) (dv ov:Value) (S:Lx.ES):Prop:=EV w0 w dv ov S∧AllP P S.l
structure EnvC (num val:ByteArray → Int × Bool) (P:Lx.Tok → Prop) (w0:World) (dv:Value) (og:Nat):Prop where
  ops:OpsAt w0 og
  num:∀ t,P t → t.k=3 → ∀ w,Below w0.heap.size w0 w → Calls Tryz.prog 138 #[.string t.t] w fun e w'=>e=.returned (.tuple #[.int .i64 (num t.t).1,.bool (num t.t).2])∧w.grownBy w' none
  val:∀ t,P t → t.k=1 → ∀ w,Below w0.heap.size w0 w → Calls Tryz.prog 91 #[dv,.string t.t] w fun e w'=>e=.returned (.tuple #[.int .i64 (val t.t).1,.bool (val t.t).2])∧w.grownBy w' none
theorem EV.opened {w0 w:World} {dv ov:Value} {S:Lx.ES} {t:Lx.Tok} {r:List Lx.Tok} (h:EV w0 w dv ov S) (hl:S.l=t :: r) :
    ∃ g o c,w.heap[w0.heap.size]? = some (.cells #[.slice (some ⟨g,o,none⟩) (r.length + 1) c,dv,ov,.bool S.bad] 95 (0,0))∧r.length + 1 ≤ c∧c ≤ maxLen∧g < w0.heap.size∧w.cell? ⟨g,o,none⟩=some (.int .i64 t.k)∧w.cell? ⟨g,o + 1,none⟩=some (.string t.b)∧w.cell? ⟨g,o + 2,none⟩=some (.string t.t)∧w.cell? ⟨g,o + 3,none⟩=some (.int .i64 t.a) ∧
      Tks w0 (.slice (some ⟨g,o,none⟩) (r.length + 1) c) (t :: r):=by
  obtain ⟨lv,h1,h2,h3⟩:=h
  rw [hl] at h2
  have h2':=h2
  obtain ⟨A,c,rfl,hc1,hc2,hA⟩:=h2
  obtain ⟨g,o,rfl,hta,hgl⟩:=hA.resolve_left (by simp)
  obtain ⟨a0,a1,a2,a3⟩:=(hta.below h3 hgl) 0 t rfl
  rw [Nat.zero_mul,Nat.add_zero] at a0 a1 a2 a3
  exact ⟨g,o,c,h1,hc1,hc2,hgl,a0,a1,a2,a3,h2'⟩
theorem EV.closed {w0 w:World} {dv ov:Value} {S:Lx.ES} (h:EV w0 w dv ov S) (hl:S.l=[]):∃ A c,w.heap[w0.heap.size]? = some (.cells #[.slice A 0 c,dv,ov,.bool S.bad] 95 (0,0)):=by
  obtain ⟨lv,h1,h2,h3⟩:=h
  rw [hl] at h2
  obtain ⟨A,c,rfl,hc1,hc2,hA⟩:=h2
  exact ⟨A,c,h1⟩
theorem EV.behind {w0 w:World} {dv ov:Value} {S:Lx.ES} (h:EV w0 w dv ov S):Below w0.heap.size w0 w:=by obtain ⟨_,_,_,h3⟩:=h;exact h3
theorem EV.taken {w0 w:World} {dv ov lv lv':Value} {l r:List Lx.Tok} {bad:Bool} (h:w.heap[w0.heap.size]? = some (.cells #[lv,dv,ov,.bool bad] 95 (0,0))) (hb:Below w0.heap.size w0 w) (hT:Tks w0 lv' r) :
    EV w0 (w.setCell ⟨w0.heap.size,0,none⟩ lv') dv ov ⟨r,bad⟩∧w.grownBy (w.setCell ⟨w0.heap.size,0,none⟩ lv') (some w0.heap.size):=by
  have hg:w.grownBy (w.setCell ⟨w0.heap.size,0,none⟩ lv') (some w0.heap.size):=grown_set (World.grownBy.refl _ _) _ _
  refine ⟨⟨lv',blk_set h 0 _,hT,hb.grown hg (by have:=blk_lt h;omega) (fun k hk=>by cases hk;exact Nat.le_refl _)⟩,hg⟩
theorem Tks.none {w:World} {A:Option Addr}:Tks w (.slice A 0 0) []:=⟨A,0,rfl,Nat.le_refl _,Nat.zero_le _,.inl rfl⟩
theorem is_callsP {P:Lx.Tok → Prop} (w0 w:World) (dv ov:Value) (S:Lx.ES) (gs:List UInt8) (gb:ByteArray) (hgb:gb.toList=gs) (h:EVP P w0 w dv ov S) :
    Calls Tryz.prog 86 #[.pointer (some ⟨w0.heap.size,0,none⟩),.string gb] w fun e w'=>e=.returned (.bool (Lx.isS S gs))∧EVP P w0 w' dv ov (if Lx.isS S gs=true then S.tl else S)∧w.grownBy w' (some w0.heap.size):=by
  refine (is_calls w0 w dv ov S gs gb hgb h.1).mono ?_
  rintro e w' ⟨h1,h2,h3⟩
  refine ⟨h1,⟨h2,?_⟩,h3⟩
  split
  · exact h.2.tail
  · exact h.2
theorem fail_callsP {P:Lx.Tok → Prop} (w0 w:World) (dv ov:Value) (S:Lx.ES) (h:EVP P w0 w dv ov S) :
    Calls Tryz.prog 137 #[.pointer (some ⟨w0.heap.size,0,none⟩)] w fun e w'=>e=.returned (.int .i64 0)∧EVP P w0 w' dv ov S.fail∧w.grownBy w' (some w0.heap.size):=by
  refine (fail_calls w0 w dv ov S h.1).mono ?_
  rintro e w' ⟨h1,h2,h3⟩
  exact ⟨h1,⟨h2,h.2⟩,h3⟩
def ovOf (og:Nat):Value:=.slice (some ⟨og,0,none⟩) 13 13
def BinC (num val:ByteArray → Int × Bool) (P:Lx.Tok → Prop) (w0:World) (dv:Value) (og m:Nat):Prop:=∀ (w:World) (lv:Nat) (S T:Lx.ES) (v:Int),1 ≤ lv → lv ≤ 7 → Lx.binF num val m lv S=some (v,T) → EVP P w0 w dv (ovOf og) S →
  Calls Tryz.prog 51 #[.pointer (some ⟨w0.heap.size,0,none⟩),.int .i64 lv] w fun e w'=>e=.returned (.int .i64 v)∧EVP P w0 w' dv (ovOf og) T∧w.grownBy w' (some w0.heap.size)
def OneC (num val:ByteArray → Int × Bool) (P:Lx.Tok → Prop) (w0:World) (dv:Value) (og m:Nat):Prop:=∀ (w:World) (S T:Lx.ES) (v:Int),Lx.oneF num val m S=some (v,T) → EVP P w0 w dv (ovOf og) S →
  Calls Tryz.prog 83 #[.pointer (some ⟨w0.heap.size,0,none⟩)] w fun e w'=>e=.returned (.int .i64 v)∧EVP P w0 w' dv (ovOf og) T∧w.grownBy w' (some w0.heap.size)
def OperC (num val:ByteArray → Int × Bool) (P:Lx.Tok → Prop) (w0:World) (dv:Value) (og m:Nat):Prop:=∀ (w:World) (S T:Lx.ES) (v:Int),Lx.operF num val m S=some (v,T) → EVP P w0 w dv (ovOf og) S →
  Calls Tryz.prog 100 #[.pointer (some ⟨w0.heap.size,0,none⟩)] w fun e w'=>e=.returned (.int .i64 v)∧EVP P w0 w' dv (ovOf og) T∧w.grownBy w' (some w0.heap.size)
theorem op_calls (j k:Nat) (h:opFuncs[j]? = some k) (a b:Int) (w:World):Calls Tryz.prog k #[.int .i64 a,.int .i64 b] w fun e w'=>e=.returned (.int .i64 (Lx.opDo j a b))∧w=w':=by
  have hj:j < 13:=(List.getElem?_eq_some_iff.1 h).1
  match j,hj with
  | 0,_=>cases h;exact op0_calls a b w
  | 1,_=>cases h;exact op1_calls a b w
  | 2,_=>cases h;exact op2_calls a b w
  | 3,_=>cases h;exact op3_calls a b w
  | 4,_=>cases h;exact op4_calls a b w
  | 5,_=>cases h;exact op5_calls a b w
  | 6,_=>cases h;exact op6_calls a b w
  | 7,_=>cases h;exact op7_calls a b w
  | 8,_=>cases h;exact op8_calls a b w
  | 9,_=>cases h;exact op9_calls a b w
  | 10,_=>cases h;exact op10_calls a b w
  | 11,_=>cases h;exact op11_calls a b w
  | 12,_=>cases h;exact op12_calls a b w
theorem enters_op (k:Nat) (h:k ∈ opFuncs):∀ (args:Array Value) (w:World),(callFunc k args).run Tryz.prog w=.ok (.enter k args) w:=by
  simp only [opFuncs,List.mem_cons,List.not_mem_nil,or_false] at h
  rcases h with rfl | rfl | rfl | rfl | rfl | rfl | rfl | rfl | rfl | rfl | rfl | rfl | rfl
  all_goals
    intro args w
    kernel_rfl
theorem findOp_lt (lv:Nat) (S:Lx.ES):∀ (l:List (List UInt8 × Nat)) (j k:Nat),Lx.findFrom lv S l j=some k → j ≤ k∧k < j + l.length
  | [],j,k,h=>by simp [Lx.findFrom] at h
  | o :: r,j,k,h=>by
    unfold Lx.findFrom at h
    split at h
    · cases h;simp
    · have:=findOp_lt lv S r (j + 1) k h
      simp only [List.length_cons];omega
set_option maxRecDepth 100000 in
set_option maxHeartbeats 8000000 in
theorem bin_step {num val:ByteArray → Int × Bool} {P:Lx.Tok → Prop} {w0:World} {dv:Value} {og:Nat} (hC:EnvC num val P w0 dv og) (m:Nat) (IH:∀ k,k < m → BinC num val P w0 dv og k) (hO:∀ k,k < m → OneC num val P w0 dv og k):BinC num val P w0 dv og m:=by
  intro w lv S T v hl1 hl7 hf h
  cases m with
  | zero=>unfold Lx.binF at hf;cases hf
  | succ m =>
  obtain ⟨x,hx⟩:∃ x,w0.heap.size=x:=⟨_,rfl⟩
  have hEVP:=h
  obtain ⟨⟨lv0,hx1,-,hB⟩,-⟩:=h
  have hxl:=blk_lt hx1
  rw [hx] at hxl
  have hA1:=World.grownBy_alloc w (.cells #[.pointer (some ⟨w0.heap.size,0,none⟩)] 91) none
  have hA2:=World.grownBy_alloc (w.alloc (.cells #[.pointer (some ⟨w0.heap.size,0,none⟩)] 91)) (.cells #[.int .i64 lv] 3) none
  have hEV2:EVP P w0 ((w.alloc (.cells #[.pointer (some ⟨w0.heap.size,0,none⟩)] 91)).alloc (.cells #[.int .i64 lv] 3)) dv (ovOf og) S:=⟨(hEVP.1.grown hA1).grown hA2,hEVP.2⟩
  have HEV2:=mkA hEV2
  have HC:=mkA hC
  have HIH:=mkA IH
  have HOO:=mkA hO
  have HX:=mkA hx
  clear hEVP hx1 hB hEV2 hC IH hO hA1 hA2
  unfold Lx.binF at hf
  by_cases h7:lv=7
  · subst h7
    rw [if_pos rfl] at hf
    have H1:=mkA (HOO.out m (by omega) _ S T v hf HEV2.out)
    rw [hx] at H1 ⊢
    clear hf hx
    go_enter Tryz.func51,Tryz.ntmps51
    go_wp2_with (go_at_call 83;(refine H1.out.mono ?_);rintro e w' ⟨rfl,hev,hg⟩;have HE:=mkA hev;have HG:=mkA hg;clear hev hg)
    go_ret
    exact ⟨rfl,HE.out,grown_trans ((World.grownBy_alloc _ _ _).trans (World.grownBy_alloc _ _ _)) HG.out⟩
  · rw [if_neg h7] at hf
    have h72:((lv:Int) == 7)=false:=by rw [beq_eq_false_iff_ne];omega
    cases hb:Lx.binF num val m (lv + 1) S with
    | none=>rw [hb] at hf;cases hf
    | some r =>
    obtain ⟨v1,S1⟩:=r
    rw [hb] at hf
    dsimp only at hf
    have H1:=mkA (HIH.out m (by omega) _ (lv + 1) S S1 v1 (by omega) (by omega) hb HEV2.out)
    have HF:=mkA hf
    have hwl:IntKind.i64.wrap ((lv:Int) + 1)=(lv:Int) + 1:=IntWalk.i64_in _ (by omega)
    have hcast:((lv + 1:Nat):Int)=(lv:Int) + 1:=by omega
    rw [hcast] at H1
    rw [hx] at H1 ⊢
    clear hf hb hx hcast
    go_enter Tryz.func51,Tryz.ntmps51
    go_wp2_with (go_at_call 51;(refine H1.out.mono ?_);rintro e w' ⟨rfl,hev,hg⟩;have HE:=mkA hev;have HG:=mkA hg;clear hev hg)
    obtain ⟨w1,rfl⟩:∃ w1,w1=w':=⟨_,rfl⟩
    have hxn2:w.heap.size ≠ x:=by omega
    have hxn3:w.heap.size + 1 ≠ x:=by omega
    have hb2:w1.heap[w.heap.size]? = some (.cells #[.pointer (some ⟨x,0,none⟩)] 91 (0,0)):=by
      exact (HG.out.block _ (by simp;omega) (by simpa using fun e=>hxn2 e)).trans (blk_alloc (blk_new w _) _)
    have hb3:w1.heap[w.heap.size + 1]? = some (.cells #[.int .i64 lv] 3 (0,0)) :=
      (HG.out.block _ (by simp) (by simpa using fun e=>hxn3 e)).trans (blk_new_at _ _ _ (by simp))
    have HB2:=mkA hb2
    have HB3:=mkA hb3
    clear hb2 hb3 h72
    go_loopg [5] m (fun kq v5 W => ∃ (k:Nat) (u:Int) (U:Lx.ES),v5=.int .i64 u∧Aside0 (k ≤ m∧kq=k∧Lx.loopF num val k lv u U=some (v,T))∧Aside0 (EVP P w0 W dv (ovOf og) U)∧Aside0 (w1.grownBy W (some x)))
    case atStart=>exact ⟨m,v1,S1,rfl,⟨Nat.le_refl _,rfl,HF.out⟩,HE,⟨World.grownBy.refl _ _⟩⟩
    case round =>
      obtain ⟨k,u,U,rfl,HK,HU,HW⟩:=hrel
      have hf:=HK.out.2.2
      have hk:=HK.out.1
      cases k with
      | zero=>unfold Lx.loopF at hf;cases hf
      | succ k =>
      unfold Lx.loopF at hf
      have g2:=(HW.out.block _ (blk_lt HB2.out) (by simpa using fun e=>hxn2 e)).trans HB2.out
      have g3:=(HW.out.block _ (blk_lt HB3.out) (by simpa using fun e=>hxn3 e)).trans HB3.out
      have c2:wr.cell? ⟨w.heap.size,0,none⟩=some (.pointer (some ⟨x,0,none⟩)):=by rw [blk_cell g2];rfl
      have c3:wr.cell? ⟨w.heap.size + 1,0,none⟩=some (.int .i64 lv):=by rw [blk_cell g3];rfl
      obtain ⟨lvx,hxb,-,hBe⟩:=HU.out.1
      rw [HX.out] at hxb
      have x2:wr.cell? ⟨x,2,none⟩=some (.slice (some ⟨og,0,none⟩) 13 13):=by rw [blk_cell hxb];rfl
      have x3:wr.cell? ⟨x,3,none⟩=some (.bool U.bad):=by rw [blk_cell hxb];rfl
      have hfo:=findOp_calls w0 wr dv og lv w.heap.size (w.heap.size + 1) U HC.out.ops HU.out.1 g3 (by rw [HX.out];exact g2) (by rw [HX.out];exact hxn2) (by rw [HX.out];exact hxn3)
      rw [HX.out] at hfo
      have HGALL:=mkA (show w.grownBy w1 (some x) from grown_trans ((World.grownBy_alloc _ _ _).trans (World.grownBy_alloc _ _ _)) HG.out)
      clear g2 g3 hxb
      cases hbad:U.bad
      · rw [hbad] at hf x3
        rw [if_neg Bool.false_ne_true] at hf
        cases hop:Lx.findOp lv U with
        | none =>
          rw [hop] at hf hfo
          dsimp only at hf
          cases hf
          have HFO:=mkA hfo
          clear hfo hop hbad
          go_wp2_with (go_at_call 84;(refine HFO.out.mono ?_);rintro e w2 ⟨rfl,hev,hg⟩;have HE2:=mkA hev;have HG2:=mkA hg;clear hev hg;unfold placeOf)
          go_ret
          exact ⟨rfl,⟨HE2.out,HU.out.2⟩,grown_trans HGALL.out (grown_trans HW.out HG2.out)⟩
        | some j =>
          rw [hop] at hf hfo
          dsimp only at hf
          cases hb:Lx.binF num val k (lv + 1) U.tl with
          | none=>rw [hb] at hf;cases hf
          | some r =>
          obtain ⟨u1,T1⟩:=r
          rw [hb] at hf
          dsimp only at hf
          have hj13:j < 13:=by have:=(findOp_lt lv U Lx.ops 0 j hop).2;simpa [Lx.ops] using this
          have HBIN:=mkA (show ∀ W,EVP P w0 W dv (ovOf og) U.tl → Calls Tryz.prog 51 #[.pointer (some ⟨x,0,none⟩),.int .i64 ((lv:Int) + 1)] W fun e w'=>e=.returned (.int .i64 u1)∧EVP P w0 w' dv (ovOf og) T1∧W.grownBy w' (some x) from fun W hW=>by
            have:=HIH.out k (by omega) W (lv + 1) U.tl T1 u1 (by omega) (by omega) hb hW
            rw [HX.out] at this
            exact this)
          have HFO:=mkA hfo
          have HFF:=mkA hf
          have HTL:=mkA (show AllP P U.tl.l from HU.out.2.tail)
          obtain ⟨o,ho⟩:∃ o,Lx.ops[j]? = some o:=⟨_,List.getElem?_eq_getElem hj13⟩
          have HO:=mkA ho
          clear hfo hop hbad hb hf ho
          go_wp2_with (go_at_call 84;(refine HFO.out.mono ?_);rintro e w2 ⟨rfl,hev,hg⟩;have hbw2:=hev.behind;have hev1:=hev;obtain ⟨lv2,hxb2,-,-⟩:=hev1;rw [HX.out] at hxb2;have y2:w2.cell? ⟨x,2,none⟩=some (.slice (some ⟨og,0,none⟩) 13 13):=(by rw [blk_cell hxb2];rfl);obtain ⟨-,-,kf,hkf,of2⟩:=(HC.out.ops.below hbw2).2 j o HO.out;have HKF:=mkA hkf;have HE2:=mkA hev;have HG2:=mkA hg;have d2:=hg.cell c2 (by simpa using fun e=>hxn2 e);have d3:=hg.cell c3 (by simpa using fun e=>hxn3 e);clear hev hg hbw2 hxb2 hkf;unfold placeOf)
          have hev2:EV w0 w2 dv (ovOf og) U.tl:=HE2.out
          have HV2:=mkA hev2
          clear hev2
          have hj0:(0:Int) ≤ (j:Int):=by omega
          have hj1:(j:Int) < 13:=by omega
          have hj2:(j:Int) ≤ 13:=by omega
          have heg:=enters_op kf (List.mem_of_getElem? HKF.out)
          go_region_held3 (fun (W:World)=>W.cell? ⟨w.heap.size,0,none⟩=some (.pointer (some ⟨x,0,none⟩))∧W.cell? ⟨w.heap.size + 1,0,none⟩=some (.int .i64 lv)∧W.cell? ⟨x,2,none⟩=some (.slice (some ⟨og,0,none⟩) 13 13)∧W.cell? ⟨og,j * 3 + 2,none⟩=some (.func (.func kf) #[] #[])) (first | exact ⟨d2,d3,y2,of2⟩ | exact ⟨e2,e3,y3,of3⟩) (first | (go_at_call 51;(refine (HBIN.out _ ⟨HV2.out.grown (by repeat (first | exact World.grownBy.refl _ _ | apply grown_drew | apply grown_drewN)),HTL.out⟩).mono ?_);rintro e w3 ⟨rfl,hev,hg⟩;have hg3:w2.grownBy w3 (some x):=⟨hg.os,hg.tape,hg.output,hg.size,hg.block⟩;have hbw3:=hev.1.behind;have hev1:=hev.1;obtain ⟨lv3,hxb3,-,-⟩:=hev1;rw [HX.out] at hxb3;have y3:w3.cell? ⟨x,2,none⟩=some (.slice (some ⟨og,0,none⟩) 13 13):=(by rw [blk_cell hxb3];rfl);obtain ⟨-,-,kf3,hkf3,of3⟩:=(HC.out.ops.below hbw3).2 j o HO.out;rw [HKF.out] at hkf3;cases hkf3;have e2:=hg3.cell d2 (by simpa using fun e=>hxn2 e);have e3:=hg3.cell d3 (by simpa using fun e=>hxn3 e);have HE3:=mkA hev;have HG3:=mkA hg3;clear hev hg hg3 hbw3 hxb3) | (refine (op_calls j _ HKF.out _ _ _).mono ?_;rintro e w4 ⟨rfl,rfl⟩))
          all_goals go_wp2_with fail
          all_goals go_roundg k
          case measure=>have:=HK.out;omega
          all_goals first
            | (have:=HK.out;omega)
            | exact ⟨k,_,T1,rfl,⟨by omega,rfl,HFF.out⟩,HE3,⟨grown_trans HW.out (grown_trans HG2.out HG3.out)⟩⟩
      · rw [hbad] at hf x3
        rw [if_pos rfl] at hf
        cases hf
        clear hfo hbad
        go_wp2_with fail
        go_ret
        exact ⟨rfl,HU.out,grown_trans HGALL.out HW.out⟩
def DefC (val:ByteArray → Int × Bool) (P:Lx.Tok → Prop) (w0:World) (dv:Value) (og:Nat):Prop:=∀ (w:World) (S:Lx.ES),EVP P w0 w dv (ovOf og) S →
  Calls Tryz.prog 139 #[.pointer (some ⟨w0.heap.size,0,none⟩)] w fun e w'=>e=.returned (.int .i64 (Lx.definedE val S).1)∧EVP P w0 w' dv (ovOf og) (Lx.definedE val S).2∧w.grownBy w' (some w0.heap.size)
theorem EVP.grown {P:Lx.Tok → Prop} {w0 w w':World} {dv ov:Value} {S:Lx.ES} (h:EVP P w0 w dv ov S) (hg:w.grownBy w' none):EVP P w0 w' dv ov S:=⟨h.1.grown hg,h.2⟩
set_option maxRecDepth 100000 in
theorem is_no (w0 w:World) (dv ov:Value) (S:Lx.ES) (gs:List UInt8) (gb:ByteArray) (hgb:gb.toList=gs) (h:EV w0 w dv ov S) (hno:Lx.isS S gs=false) :
    Calls Tryz.prog 86 #[.pointer (some ⟨w0.heap.size,0,none⟩),.string gb] w fun e w'=>e=.returned (.bool false)∧w=w':=by
  obtain ⟨l,bad⟩:=S
  obtain ⟨x,hx⟩:∃ x,w0.heap.size=x:=⟨_,rfl⟩
  cases l with
  | nil =>
    obtain ⟨A,c,h1⟩:=h.closed rfl
    rw [hx] at h1 ⊢
    have c0:w.cell? ⟨x,0,none⟩=some (.slice A 0 c):=by rw [blk_cell h1];rfl
    have hl:=blk_lt h1
    clear h1 hx h hno
    go_enter Tryz.func86,Tryz.ntmps86
    go_wp2_with fail
    go_ret
    exact ⟨rfl,rfl⟩
  | cons t r =>
    obtain ⟨g,o,c,h1,hc1,hc2,hgl,a0,a1,a2,a3,-⟩:=h.opened rfl
    rw [hx] at h1 hgl ⊢
    have c0:w.cell? ⟨x,0,none⟩=some (.slice (some ⟨g,o,none⟩) (r.length + 1) c):=by rw [blk_cell h1];rfl
    have hl:=blk_lt h1
    have hr2:(((r.length:Int) + 1) == 0)=false:=by rw [beq_eq_false_iff_ne];omega
    have hdef:Lx.isS ⟨t :: r,bad⟩ gs=(decide (t.k=6) && (t.t.toList == gs)):=rfl
    rw [hdef] at hno
    clear h1 hx h hdef
    cases hk:(t.k != 6)
    · rw [decide_eq_true (bne_eq_false_iff_eq.mp hk),Bool.true_and] at hno
      go_enter Tryz.func86,Tryz.ntmps86
      go_wp2_with fail
      go_ret
      exact ⟨rfl,rfl⟩
    · clear hno
      go_enter Tryz.func86,Tryz.ntmps86
      go_wp2_with fail
      go_ret
      exact ⟨rfl,rfl⟩
theorem grown_any {w w':World} {row:Option Nat} (h:w.grownBy w' none):w.grownBy w' row:=⟨h.os,h.tape,h.output,h.size,fun k hk _=>h.block k hk (by simp)⟩
set_option maxRecDepth 100000 in
set_option maxHeartbeats 8000000 in
theorem oper_step {num val:ByteArray → Int × Bool} {P:Lx.Tok → Prop} {w0:World} {dv:Value} {og:Nat} (hC:EnvC num val P w0 dv og) (hD:DefC val P w0 dv og) (m:Nat) (IH:∀ k,k < m → BinC num val P w0 dv og k):OperC num val P w0 dv og m:=by
  intro w S T v hf h
  cases m with
  | zero=>unfold Lx.operF at hf;cases hf
  | succ m =>
  obtain ⟨x,hx⟩:∃ x,w0.heap.size=x:=⟨_,rfl⟩
  obtain ⟨l,bad⟩:=S
  have HEV:=mkA h
  have HC:=mkA hC
  have HX:=mkA hx
  have HFA:=mkA (show ∀ W S',EVP P w0 W dv (ovOf og) S' → Calls Tryz.prog 137 #[.pointer (some ⟨x,0,none⟩)] W fun e w'=>e=.returned (.int .i64 0)∧EVP P w0 w' dv (ovOf og) S'.fail∧W.grownBy w' (some x) from fun W S' h=>by
    have:=fail_callsP w0 W dv (ovOf og) S' h
    rw [hx] at this
    exact this)
  have HIS:=mkA (show ∀ W S' (g:List UInt8) (gb:ByteArray),gb.toList=g → EVP P w0 W dv (ovOf og) S' → Calls Tryz.prog 86 #[.pointer (some ⟨x,0,none⟩),.string gb] W fun e w'=>e=.returned (.bool (Lx.isS S' g))∧EVP P w0 w' dv (ovOf og) (if Lx.isS S' g=true then S'.tl else S')∧W.grownBy w' (some x) from fun W S' g gb hg h=>by
    have:=is_callsP w0 W dv (ovOf og) S' g gb hg h
    rw [hx] at this
    exact this)
  have HD:=mkA (show ∀ W S',EVP P w0 W dv (ovOf og) S' → Calls Tryz.prog 139 #[.pointer (some ⟨x,0,none⟩)] W fun e w'=>e=.returned (.int .i64 (Lx.definedE val S').1)∧EVP P w0 w' dv (ovOf og) (Lx.definedE val S').2∧W.grownBy w' (some x) from fun W S' h=>by
    have:=hD W S' h
    rw [hx] at this
    exact this)
  have HIH:=mkA (show ∀ W S' T' v',Lx.binF num val m 1 S'=some (v',T') → EVP P w0 W dv (ovOf og) S' → Calls Tryz.prog 51 #[.pointer (some ⟨x,0,none⟩),.int .i64 1] W fun e w'=>e=.returned (.int .i64 v')∧EVP P w0 w' dv (ovOf og) T'∧W.grownBy w' (some x) from fun W S' T' v' hb h=>by
    have:=IH m (by omega) W 1 S' T' v' (by omega) (by omega) hb h
    rw [hx] at this
    exact this)
  obtain ⟨lv0,hx1,-,hB⟩:=h.1
  rw [hx] at hx1
  have hxl:=blk_lt hx1
  have x3:w.cell? ⟨x,3,none⟩=some (.bool bad):=by rw [blk_cell hx1];rfl
  unfold Lx.operF at hf
  dsimp only at hf
  cases bad
  · rw [if_neg Bool.false_ne_true] at hf
    cases l with
    | nil =>
      dsimp only at hf
      cases hf
      obtain ⟨A,c,hx2⟩:=h.1.closed rfl
      rw [hx] at hx2
      have x0:w.cell? ⟨x,0,none⟩=some (.slice A 0 c):=by rw [blk_cell hx2];rfl
      rw [hx]
      clear hx1 hx2 h hC hD IH hB hx
      go_enter Tryz.func100,Tryz.ntmps100
      go_wp2_with (go_at_call 137;(refine (HFA.out _ ⟨[],false⟩ HEV.out).mono ?_);rintro e w9 ⟨rfl,hev,hg⟩;have HEV9:=mkA hev;have HG9:=mkA hg;clear hev hg)
      go_ret
      exact ⟨rfl,HEV9.out,HG9.out⟩
    | cons t r =>
      dsimp only at hf
      obtain ⟨g,o,c,hx2,hc1,hc2,hgl,a0,a1,a2,a3,htk⟩:=h.1.opened rfl
      have hPt:P t:=h.2.1 t List.mem_cons_self
      rw [hx] at hx2 hgl
      have x0:w.cell? ⟨x,0,none⟩=some (.slice (some ⟨g,o,none⟩) (r.length + 1) c):=by rw [blk_cell hx2];rfl
      have hr2:(((r.length:Int) + 1) == 0)=false:=by rw [beq_eq_false_iff_ne];omega
      rw [hx]
      obtain ⟨op,hop⟩:∃ op,Lx.isS ⟨t :: r,false⟩ [40]=op:=⟨_,rfl⟩
      rw [hop] at hf
      have HOPN:=mkA hop
      have hi1:=HIS.out w ⟨t :: r,false⟩ [40] ⟨#[40]⟩ (by rw [ByteArray.toList_eq]) h
      rw [hop] at hi1
      have HI1:=mkA hi1
      clear hi1
      have HTK:=mkA htk
      have HPT:=mkA hPt
      have HPR:=mkA (show AllP P r from AllP.rest h.2)
      have HB0:=mkA hx2
      clear hx1 hx2 h hC hD IH hB hx hop htk hPt
      cases op
      · rw [if_neg Bool.false_ne_true] at hf
        have hno:=is_no w0 w dv (ovOf og) ⟨t :: r,false⟩ [40] ⟨#[40]⟩ (by rw [ByteArray.toList_eq]) HEV.out.1 HOPN.out
        rw [HX.out] at hno
        have HNO:=mkA hno
        have z0:=blk_frozen HB0.out 0
        have hxne:x ≠ w.heap.size:=by omega
        have hcases:∃ lv',(c=1∧r.length=0∧lv'=Value.slice (some ⟨g,o,none⟩) 0 0 ∨ ¬ c=1∧lv'=Value.slice (some ⟨g,o + 4,none⟩) r.length (c - 1))∧Tks w0 lv' r:=by
          by_cases hc:c=1
          · have hr0:r.length=0:=by omega
            refine ⟨_,.inl ⟨hc,hr0,rfl⟩,?_⟩
            obtain rfl:r=[]:=List.eq_nil_of_length_eq_zero hr0
            exact Tks.none
          · exact ⟨_,.inr ⟨hc,rfl⟩,HTK.out.tail⟩
        obtain ⟨lv',hlv,htk'⟩:=hcases
        have hb1:=HB0.out
        rw [← HX.out] at hb1
        have htaken:=EV.taken (r:=r) (l:=[]) hb1 HEV.out.1.behind htk'
        rw [HX.out] at htaken
        have HW2:=mkA (EVP.grown (P:=P) (S:=⟨r,false⟩) ⟨htaken.1,HPR.out⟩ (World.grownBy_alloc (w.setCell ⟨x,0,none⟩ lv') (.cells #[.int .i64 t.k,.string t.b,.string t.t,.int .i64 t.a] 29) none))
        have HGW2:=mkA (grown_trans htaken.2 (World.grownBy_alloc (w.setCell ⟨x,0,none⟩ lv') (.cells #[.int .i64 t.k,.string t.b,.string t.t,.int .i64 t.a] 29) (some x)))
        clear hno hb1 htaken htk' HI1
        rcases hlv with ⟨hc,hr0,rfl⟩ | ⟨hc,rfl⟩
        · subst hc
          cases h3:(t.k == 3)
          · rw [if_neg (beq_eq_false_iff_ne.mp h3)] at hf
            cases hdf:(t.t.toList == [100,101,102,105,110,101,100])
            · rw [hdf,if_neg Bool.false_ne_true] at hf
              cases h1:(t.k == 1)
              · rw [if_neg (beq_eq_false_iff_ne.mp h1)] at hf
                cases hf
                go_enter Tryz.func100,Tryz.ntmps100
                go_wp2_with (first | (go_at_call 86;(with_reducible refine HNO.out.mono ?_);rintro e w1 ⟨rfl,rfl⟩) | (go_at_call 89;(refine (isName_calls t _).mono ?_);rintro e w5 ⟨rfl,hg⟩;have HW5:=mkA (HW2.out.grown hg);have HG5:=mkA (grown_trans HGW2.out (grown_any hg));clear hg) | (go_at_call 137;(refine (HFA.out _ ⟨r,false⟩ HW5.out).mono ?_);rintro e w9 ⟨rfl,hev,hg⟩;have HEV9:=mkA hev;have HG9:=mkA hg;clear hev hg))
                go_ret
                exact ⟨rfl,HEV9.out,grown_trans HG5.out HG9.out⟩
              · rw [if_pos (beq_iff_eq.mp h1)] at hf
                have hvl:=fun W hW=>HC.out.val t HPT.out (beq_iff_eq.mp h1) W hW
                obtain ⟨vv,hvv⟩:∃ vv,val t.t=vv:=⟨_,rfl⟩
                rw [hvv] at hf hvl
                cases hf
                have HVL:=mkA hvl
                clear hvl hvv
                go_enter Tryz.func100,Tryz.ntmps100
                go_wp2_with (first | (go_at_call 86;(with_reducible refine HNO.out.mono ?_);rintro e w1 ⟨rfl,rfl⟩) | (go_at_call 89;(refine (isName_calls t _).mono ?_);rintro e w5 ⟨rfl,hg⟩;have hw5:=HW2.out.grown hg;have hev1:=hw5.1;obtain ⟨lv5,hxb5,-,-⟩:=hev1;rw [HX.out] at hxb5;have y1:w5.cell? ⟨x,1,none⟩=some dv:=(by rw [blk_cell hxb5];rfl);have n2:w5.cell? ⟨w.heap.size,2,none⟩=some (.string t.t):=hg.cell (by rw [blk_cell (blk_new_at _ _ w.heap.size (by simp [World.setCell]))];rfl) (by simp);have HW5:=mkA hw5;have HG5:=mkA (grown_trans HGW2.out (grown_any hg));clear hg hw5 hxb5))
                go_region_held3 (fun (W:World)=>W.cell? ⟨x,1,none⟩=some dv∧W.cell? ⟨w.heap.size,2,none⟩=some (.string t.t)) (first | exact ⟨y1,n2⟩ | exact ⟨y6,n6⟩) (first | (go_at_call 91;(refine (HVL.out _ (EV.grown HW5.out.1 (by repeat (first | exact World.grownBy.refl _ _ | apply grown_drew | apply grown_drewN))).behind).mono ?_);rintro e w6 ⟨rfl,hg⟩;have hg6:w5.grownBy w6 none:=⟨hg.os,hg.tape,hg.output,hg.size,hg.block⟩;have y6:=hg6.cell y1 (by simp);have n6:=hg6.cell n2 (by simp);have HW6:=mkA (HW5.out.grown hg6);have HG6:=mkA (grown_trans HG5.out (grown_any hg6));clear hg hg6))
                all_goals go_wp2_with fail
                all_goals go_ret
                all_goals exact ⟨rfl,HW6.out,HG6.out⟩
            · rw [hdf,if_pos rfl] at hf
              have e1:=Option.some.inj hf
              obtain ⟨dv1,hdv⟩:∃ dv1,Lx.definedE val ⟨r,false⟩=dv1:=⟨_,rfl⟩
              have e2:dv1=(v,T):=by rw [← hdv];exact e1
              subst e2
              have hd1:=HD.out _ ⟨r,false⟩ HW2.out
              rw [hdv] at hd1
              have HD1:=mkA hd1
              clear hf e1 hdv hd1 HD
              go_enter Tryz.func100,Tryz.ntmps100
              go_wp2_with (first | (go_at_call 86;(with_reducible refine HNO.out.mono ?_);rintro e w1 ⟨rfl,rfl⟩) | (go_at_call 139;(refine HD1.out.mono ?_);rintro e w5 ⟨rfl,hev,hg⟩;have HEV9:=mkA hev;have HG9:=mkA hg;clear hev hg))
              go_ret
              exact ⟨rfl,HEV9.out,grown_trans HGW2.out HG9.out⟩
          · rw [if_pos (beq_iff_eq.mp h3)] at hf
            have hnm:=HC.out.num t HPT.out (beq_iff_eq.mp h3) _ HW2.out.1.behind
            cases hok:(num t.t).2
            · rw [hok,if_neg Bool.false_ne_true] at hf
              cases hf
              rw [hok] at hnm
              obtain ⟨nv,hnv⟩:∃ nv,(num t.t).1=nv:=⟨_,rfl⟩
              rw [hnv] at hnm
              have HNM:=mkA hnm
              clear hnm hok hnv
              go_enter Tryz.func100,Tryz.ntmps100
              go_wp2_with (first | (go_at_call 86;(with_reducible refine HNO.out.mono ?_);rintro e w1 ⟨rfl,rfl⟩) | (go_at_call 138;(refine HNM.out.mono ?_);rintro e w5 ⟨rfl,hg⟩;have HW5:=mkA (HW2.out.grown hg);have HG5:=mkA (grown_trans HGW2.out (grown_any hg));clear hg) | (go_at_call 137;(refine (HFA.out _ ⟨r,false⟩ HW5.out).mono ?_);rintro e w9 ⟨rfl,hev,hg⟩;have HEV9:=mkA hev;have HG9:=mkA hg;clear hev hg))
              go_ret
              exact ⟨rfl,HEV9.out,grown_trans HG5.out HG9.out⟩
            · rw [hok,if_pos rfl] at hf
              rw [hok] at hnm
              obtain ⟨nv,hnv⟩:∃ nv,(num t.t).1=nv:=⟨_,rfl⟩
              rw [hnv] at hnm hf
              cases hf
              have HNM:=mkA hnm
              clear hnm hok hnv
              go_enter Tryz.func100,Tryz.ntmps100
              go_wp2_with (first | (go_at_call 86;(with_reducible refine HNO.out.mono ?_);rintro e w1 ⟨rfl,rfl⟩) | (go_at_call 138;(refine HNM.out.mono ?_);rintro e w5 ⟨rfl,hg⟩;have HW5:=mkA (HW2.out.grown hg);have HG5:=mkA (grown_trans HGW2.out (grown_any hg));clear hg))
              go_ret
              exact ⟨rfl,HW5.out,HG5.out⟩
        · cases h3:(t.k == 3)
          · rw [if_neg (beq_eq_false_iff_ne.mp h3)] at hf
            cases hdf:(t.t.toList == [100,101,102,105,110,101,100])
            · rw [hdf,if_neg Bool.false_ne_true] at hf
              cases h1:(t.k == 1)
              · rw [if_neg (beq_eq_false_iff_ne.mp h1)] at hf
                cases hf
                go_enter Tryz.func100,Tryz.ntmps100
                go_wp2_with (first | (go_at_call 86;(with_reducible refine HNO.out.mono ?_);rintro e w1 ⟨rfl,rfl⟩) | (go_at_call 89;(refine (isName_calls t _).mono ?_);rintro e w5 ⟨rfl,hg⟩;have HW5:=mkA (HW2.out.grown hg);have HG5:=mkA (grown_trans HGW2.out (grown_any hg));clear hg) | (go_at_call 137;(refine (HFA.out _ ⟨r,false⟩ HW5.out).mono ?_);rintro e w9 ⟨rfl,hev,hg⟩;have HEV9:=mkA hev;have HG9:=mkA hg;clear hev hg))
                go_ret
                exact ⟨rfl,HEV9.out,grown_trans HG5.out HG9.out⟩
              · rw [if_pos (beq_iff_eq.mp h1)] at hf
                have hvl:=fun W hW=>HC.out.val t HPT.out (beq_iff_eq.mp h1) W hW
                obtain ⟨vv,hvv⟩:∃ vv,val t.t=vv:=⟨_,rfl⟩
                rw [hvv] at hf hvl
                cases hf
                have HVL:=mkA hvl
                clear hvl hvv
                go_enter Tryz.func100,Tryz.ntmps100
                go_wp2_with (first | (go_at_call 86;(with_reducible refine HNO.out.mono ?_);rintro e w1 ⟨rfl,rfl⟩) | (go_at_call 89;(refine (isName_calls t _).mono ?_);rintro e w5 ⟨rfl,hg⟩;have hw5:=HW2.out.grown hg;have hev1:=hw5.1;obtain ⟨lv5,hxb5,-,-⟩:=hev1;rw [HX.out] at hxb5;have y1:w5.cell? ⟨x,1,none⟩=some dv:=(by rw [blk_cell hxb5];rfl);have n2:w5.cell? ⟨w.heap.size,2,none⟩=some (.string t.t):=hg.cell (by rw [blk_cell (blk_new_at _ _ w.heap.size (by simp [World.setCell]))];rfl) (by simp);have HW5:=mkA hw5;have HG5:=mkA (grown_trans HGW2.out (grown_any hg));clear hg hw5 hxb5))
                go_region_held3 (fun (W:World)=>W.cell? ⟨x,1,none⟩=some dv∧W.cell? ⟨w.heap.size,2,none⟩=some (.string t.t)) (first | exact ⟨y1,n2⟩ | exact ⟨y6,n6⟩) (first | (go_at_call 91;(refine (HVL.out _ (EV.grown HW5.out.1 (by repeat (first | exact World.grownBy.refl _ _ | apply grown_drew | apply grown_drewN))).behind).mono ?_);rintro e w6 ⟨rfl,hg⟩;have hg6:w5.grownBy w6 none:=⟨hg.os,hg.tape,hg.output,hg.size,hg.block⟩;have y6:=hg6.cell y1 (by simp);have n6:=hg6.cell n2 (by simp);have HW6:=mkA (HW5.out.grown hg6);have HG6:=mkA (grown_trans HG5.out (grown_any hg6));clear hg hg6))
                all_goals go_wp2_with fail
                all_goals go_ret
                all_goals exact ⟨rfl,HW6.out,HG6.out⟩
            · rw [hdf,if_pos rfl] at hf
              have e1:=Option.some.inj hf
              obtain ⟨dv1,hdv⟩:∃ dv1,Lx.definedE val ⟨r,false⟩=dv1:=⟨_,rfl⟩
              have e2:dv1=(v,T):=by rw [← hdv];exact e1
              subst e2
              have hd1:=HD.out _ ⟨r,false⟩ HW2.out
              rw [hdv] at hd1
              have HD1:=mkA hd1
              clear hf e1 hdv hd1 HD
              go_enter Tryz.func100,Tryz.ntmps100
              go_wp2_with (first | (go_at_call 86;(with_reducible refine HNO.out.mono ?_);rintro e w1 ⟨rfl,rfl⟩) | (go_at_call 139;(refine HD1.out.mono ?_);rintro e w5 ⟨rfl,hev,hg⟩;have HEV9:=mkA hev;have HG9:=mkA hg;clear hev hg))
              go_ret
              exact ⟨rfl,HEV9.out,grown_trans HGW2.out HG9.out⟩
          · rw [if_pos (beq_iff_eq.mp h3)] at hf
            have hnm:=HC.out.num t HPT.out (beq_iff_eq.mp h3) _ HW2.out.1.behind
            cases hok:(num t.t).2
            · rw [hok,if_neg Bool.false_ne_true] at hf
              cases hf
              rw [hok] at hnm
              obtain ⟨nv,hnv⟩:∃ nv,(num t.t).1=nv:=⟨_,rfl⟩
              rw [hnv] at hnm
              have HNM:=mkA hnm
              clear hnm hok hnv
              go_enter Tryz.func100,Tryz.ntmps100
              go_wp2_with (first | (go_at_call 86;(with_reducible refine HNO.out.mono ?_);rintro e w1 ⟨rfl,rfl⟩) | (go_at_call 138;(refine HNM.out.mono ?_);rintro e w5 ⟨rfl,hg⟩;have HW5:=mkA (HW2.out.grown hg);have HG5:=mkA (grown_trans HGW2.out (grown_any hg));clear hg) | (go_at_call 137;(refine (HFA.out _ ⟨r,false⟩ HW5.out).mono ?_);rintro e w9 ⟨rfl,hev,hg⟩;have HEV9:=mkA hev;have HG9:=mkA hg;clear hev hg))
              go_ret
              exact ⟨rfl,HEV9.out,grown_trans HG5.out HG9.out⟩
            · rw [hok,if_pos rfl] at hf
              rw [hok] at hnm
              obtain ⟨nv,hnv⟩:∃ nv,(num t.t).1=nv:=⟨_,rfl⟩
              rw [hnv] at hnm hf
              cases hf
              have HNM:=mkA hnm
              clear hnm hok hnv
              go_enter Tryz.func100,Tryz.ntmps100
              go_wp2_with (first | (go_at_call 86;(with_reducible refine HNO.out.mono ?_);rintro e w1 ⟨rfl,rfl⟩) | (go_at_call 138;(refine HNM.out.mono ?_);rintro e w5 ⟨rfl,hg⟩;have HW5:=mkA (HW2.out.grown hg);have HG5:=mkA (grown_trans HGW2.out (grown_any hg));clear hg))
              go_ret
              exact ⟨rfl,HW5.out,HG5.out⟩
      · rw [if_pos rfl] at hf
        cases hb:Lx.binF num val m 1 (Lx.ES.tl ⟨t :: r,false⟩) with
        | none=>rw [hb] at hf;cases hf
        | some q =>
        obtain ⟨v1,T1⟩:=q
        rw [hb] at hf
        dsimp only at hf
        have HBN:=mkA hb
        clear hb
        obtain ⟨cl,hcl⟩:∃ cl,Lx.isS T1 [41]=cl:=⟨_,rfl⟩
        rw [hcl] at hf
        have HCL:=mkA hcl
        clear hcl
        have HI3:=mkA (show ∀ W,EVP P w0 W dv (ovOf og) T1 → Calls Tryz.prog 86 #[.pointer (some ⟨x,0,none⟩),.string ⟨#[41]⟩] W fun e w'=>e=.returned (.bool cl)∧EVP P w0 w' dv (ovOf og) (if cl=true then T1.tl else T1)∧W.grownBy w' (some x) from fun W hW=>by
          have:=HIS.out W T1 [41] ⟨#[41]⟩ (by rw [ByteArray.toList_eq]) hW
          rw [HCL.out] at this
          exact this)
        clear HIS
        cases cl
        · rw [if_neg Bool.false_ne_true] at hf
          cases hf
          go_enter Tryz.func100,Tryz.ntmps100
          go_wp2_with (first | (go_at_call 51;(refine (HIH.out _ _ _ _ HBN.out HEV1.out).mono ?_);rintro e w2 ⟨rfl,hev,hg⟩;have HEV2:=mkA hev;have HG2:=mkA hg;clear hev hg) | (go_at_call 86;(with_reducible refine HI1.out.mono ?_);rintro e w1 ⟨rfl,hev,hg⟩;have HEV1:=mkA hev;have HG1:=mkA hg;clear hev hg) | (go_at_call 86;(with_reducible refine (HI3.out _ HEV2.out).mono ?_);rintro e w3 ⟨rfl,hev,hg⟩;have HEV3:=mkA hev;have HG3:=mkA hg;clear hev hg) | (go_at_call 137;(refine (HFA.out _ T1 HEV3.out).mono ?_);rintro e w9 ⟨rfl,hev,hg⟩;have HEV9:=mkA hev;have HG9:=mkA hg;clear hev hg))
          go_ret
          exact ⟨rfl,HEV9.out,grown_trans HG1.out (grown_trans HG2.out (grown_trans HG3.out HG9.out))⟩
        · rw [if_pos rfl] at hf
          cases hf
          go_enter Tryz.func100,Tryz.ntmps100
          go_wp2_with (first | (go_at_call 51;(refine (HIH.out _ _ _ _ HBN.out HEV1.out).mono ?_);rintro e w2 ⟨rfl,hev,hg⟩;have HEV2:=mkA hev;have HG2:=mkA hg;clear hev hg) | (go_at_call 86;(with_reducible refine HI1.out.mono ?_);rintro e w1 ⟨rfl,hev,hg⟩;have HEV1:=mkA hev;have HG1:=mkA hg;clear hev hg) | (go_at_call 86;(with_reducible refine (HI3.out _ HEV2.out).mono ?_);rintro e w3 ⟨rfl,hev,hg⟩;have HEV3:=mkA hev;have HG3:=mkA hg;clear hev hg))
          go_ret
          exact ⟨rfl,HEV3.out,grown_trans HG1.out (grown_trans HG2.out HG3.out)⟩
  · rw [if_pos rfl] at hf
    cases hf
    rw [hx]
    clear hx1 h hC hD IH hB hx
    go_enter Tryz.func100,Tryz.ntmps100
    go_wp2_with (go_at_call 137;(refine (HFA.out _ ⟨l,true⟩ HEV.out).mono ?_);rintro e w9 ⟨rfl,hev,hg⟩;have HEV9:=mkA hev;have HG9:=mkA hg;clear hev hg)
    go_ret
    exact ⟨rfl,HEV9.out,HG9.out⟩
set_option maxRecDepth 100000 in
set_option maxHeartbeats 8000000 in
theorem defined_holds {num val:ByteArray → Int × Bool} {P:Lx.Tok → Prop} {w0:World} {dv:Value} {og:Nat} (hC:EnvC num val P w0 dv og):DefC val P w0 dv og:=by
  intro w S h
  obtain ⟨x,hx⟩:∃ x,w0.heap.size=x:=⟨_,rfl⟩
  have HX:=mkA hx
  have HC:=mkA hC
  have HFA:=mkA (show ∀ W S',EVP P w0 W dv (ovOf og) S' → Calls Tryz.prog 137 #[.pointer (some ⟨x,0,none⟩)] W fun e w'=>e=.returned (.int .i64 0)∧EVP P w0 w' dv (ovOf og) S'.fail∧W.grownBy w' (some x) from fun W S' h=>by
    have:=fail_callsP w0 W dv (ovOf og) S' h
    rw [hx] at this
    exact this)
  have hi1:=is_callsP w0 w dv (ovOf og) S [40] ⟨#[40]⟩ (by rw [ByteArray.toList_eq]) h
  obtain ⟨op,hop⟩:∃ op,Lx.isS S [40]=op:=⟨_,rfl⟩
  obtain ⟨S1,hS1⟩:∃ S1,(if op=true then S.tl else S)=S1:=⟨_,rfl⟩
  obtain ⟨D,hD⟩:∃ D,Lx.definedE val S=D:=⟨_,rfl⟩
  have hPall:∀ y ∈ S1.l,P y:=by
    rw [← hS1]
    split
    · exact fun y hy=>h.2.1 y (List.mem_of_mem_tail hy)
    · exact h.2.1
  rw [hop,hS1] at hi1
  rw [hD]
  unfold Lx.definedE at hD
  rw [hop,hS1] at hD
  rw [hx] at hi1 ⊢
  have HI1:=mkA hi1
  obtain ⟨l1,bad1⟩:=S1
  clear h hi1 hS1 hC hx hop
  cases l1 with
  | nil =>
    dsimp only at hD
    subst hD
    go_enter Tryz.func139,Tryz.ntmps139
    go_wp2_with (first | (go_at_call 86;(with_reducible refine HI1.out.mono ?_);rintro e w1 ⟨rfl,hev,hg⟩;obtain ⟨A,c,hxb⟩:=hev.1.closed rfl;rw [HX.out] at hxb;have x0:w1.cell? ⟨x,0,none⟩=some (.slice A 0 c):=(by rw [blk_cell hxb];rfl);have hxl:=blk_lt hxb;have HEV1:=mkA hev;have HG1:=mkA hg;clear hev hg hxb) | (go_at_call 137;(refine (HFA.out _ ⟨[],bad1⟩ HEV1.out).mono ?_);rintro e w9 ⟨rfl,hev,hg⟩;have HEV9:=mkA hev;have HG9:=mkA hg;clear hev hg))
    go_ret
    exact ⟨rfl,HEV9.out,grown_trans HG1.out HG9.out⟩
  | cons t r =>
    dsimp only at hD
    have hP1:P t:=hPall t List.mem_cons_self
    clear hPall
    have hr2:(((r.length:Int) + 1) == 0)=false:=by rw [beq_eq_false_iff_ne];omega
    cases h1:(t.k == 1)
    · rw [if_neg (beq_eq_false_iff_ne.mp h1)] at hD
      subst hD
      go_enter Tryz.func139,Tryz.ntmps139
      go_wp2_with (first | (go_at_call 86;(with_reducible refine HI1.out.mono ?_);rintro e w1 ⟨rfl,hev,hg⟩;obtain ⟨g,o,c,hxb,hc1,hc2,hgl,a0,a1,a2,a3,-⟩:=hev.1.opened rfl;rw [HX.out] at hxb hgl;have x0:w1.cell? ⟨x,0,none⟩=some (.slice (some ⟨g,o,none⟩) (r.length + 1) c):=(by rw [blk_cell hxb];rfl);have hxl:=blk_lt hxb;have HEV1:=mkA hev;have HG1:=mkA hg;clear hev hg hxb) | (go_at_call 89;(refine (isName_calls t _).mono ?_);rintro e w5 ⟨rfl,hg⟩;have HW5:=mkA (HEV1.out.grown hg);have HG5:=mkA (grown_trans HG1.out (grown_any hg));clear hg) | (go_at_call 137;(refine (HFA.out _ ⟨t :: r,bad1⟩ HW5.out).mono ?_);rintro e w9 ⟨rfl,hev,hg⟩;have HEV9:=mkA hev;have HG9:=mkA hg;clear hev hg))
      go_ret
      exact ⟨rfl,HEV9.out,grown_trans HG5.out HG9.out⟩
    · rw [if_pos (beq_iff_eq.mp h1)] at hD
      have hPt:P t ∨ True:=.inr trivial
      have hvl:=fun (hP:P t) W hW=>HC.out.val t hP (beq_iff_eq.mp h1) W hW
      obtain ⟨vv,hvv⟩:∃ vv,val t.t=vv:=⟨_,rfl⟩
      rw [hvv] at hD hvl
      have HVL:=mkA (hvl hP1)
      obtain ⟨cl,hcl⟩:∃ cl,Lx.isS ⟨r,bad1⟩ [41]=cl:=⟨_,rfl⟩
      have HI3:=mkA (show ∀ W,EVP P w0 W dv (ovOf og) ⟨r,bad1⟩ → Calls Tryz.prog 86 #[.pointer (some ⟨x,0,none⟩),.string ⟨#[41]⟩] W fun e w'=>e=.returned (.bool cl)∧EVP P w0 w' dv (ovOf og) (if cl=true then ⟨r.tail,bad1⟩ else ⟨r,bad1⟩)∧W.grownBy w' (some x) from fun W hW=>by
        have:=is_callsP w0 W dv (ovOf og) ⟨r,bad1⟩ [41] ⟨#[41]⟩ (by rw [ByteArray.toList_eq]) hW
        rw [hcl,HX.out] at this
        exact this)
      rw [hcl] at hD
      clear hvl hvv hcl hPt
      cases op
      · rw [Bool.false_and,if_neg Bool.false_ne_true,if_neg Bool.false_ne_true] at hD
        subst hD
        go_enter Tryz.func139,Tryz.ntmps139
        go_wp2_with (first | (go_at_call 86;(with_reducible refine HI1.out.mono ?_);rintro e w1 ⟨rfl,hev,hg⟩;obtain ⟨g,o,c,hxb,hc1,hc2,hgl,a0,a1,a2,a3,htk⟩:=hev.1.opened rfl;have HTK:=mkA htk;rw [HX.out] at hxb hgl;have x0:w1.cell? ⟨x,0,none⟩=some (.slice (some ⟨g,o,none⟩) (r.length + 1) c):=(by rw [blk_cell hxb];rfl);have x1:w1.cell? ⟨x,1,none⟩=some dv:=(by rw [blk_cell hxb];rfl);have hxl:=blk_lt hxb;have HXB:=mkA hxb;have HEV1:=mkA hev;have HG1:=mkA hg;clear hev hg hxb htk) | (go_at_call 89;(refine (isName_calls t _).mono ?_);rintro e w5 ⟨rfl,hg⟩;have y0:=hg.cell x0 (by simp);have y1:=hg.cell x1 (by simp);have b2:=hg.cell a2 (by simp);have HXB5:=mkA ((hg.block x hxl (by simp)).trans HXB.out);have HW5:=mkA (HEV1.out.grown hg);have HG5:=mkA (grown_trans HG1.out (grown_any hg));clear hg))
        have hj0:(0:Int) ≤ (r.length:Int):=by omega
        have hj1:(0:Int) < (r.length:Int) + 1:=by omega
        go_region_held3 (fun (W:World)=>W.cell? ⟨x,1,none⟩=some dv∧W.cell? ⟨x,0,none⟩=some (.slice (some ⟨g,o,none⟩) (r.length + 1) c)∧W.cell? ⟨g,o + 2,none⟩=some (.string t.t)) (first | exact ⟨y1,y0,b2⟩ | exact ⟨y16,y06,b26⟩) (first | (go_at_call 91;(refine (HVL.out _ (EV.grown HW5.out.1 (by repeat (first | exact World.grownBy.refl _ _ | apply grown_drew | apply grown_drewN))).behind).mono ?_);rintro e w6 ⟨rfl,hg⟩;have hg6:w5.grownBy w6 none:=⟨hg.os,hg.tape,hg.output,hg.size,hg.block⟩;have y16:=hg6.cell y1 (by simp);have y06:=hg6.cell y0 (by simp);have b26:=hg6.cell b2 (by simp);have hxb6:=(hg6.block x (blk_lt HXB5.out) (by simp)).trans HXB5.out;have z06:=blk_frozen hxb6 0;have HXB6:=mkA hxb6;have HW6:=mkA (HW5.out.grown hg6);have HG6:=mkA (grown_trans HG5.out (grown_any hg6));clear hg hg6 hxb6))
        all_goals
          have hxb6:=HXB6.out
          rw [← HX.out] at hxb6
          have htk2:∃ lv',(c=1∧r.length=0∧lv'=Value.slice (some ⟨g,o,none⟩) 0 0 ∨ ¬ c=1∧lv'=Value.slice (some ⟨g,o + 4,none⟩) r.length (c - 1))∧Tks w0 lv' r:=by
            by_cases hc:c=1
            · have hr0:r.length=0:=by omega
              refine ⟨_,.inl ⟨hc,hr0,rfl⟩,?_⟩
              obtain rfl:r=[]:=List.eq_nil_of_length_eq_zero hr0
              exact Tks.none
            · exact ⟨_,.inr ⟨hc,rfl⟩,HTK.out.tail⟩
          obtain ⟨lv',hlv,htk'⟩:=htk2
          have htaken:=EV.taken (r:=r) (l:=[]) hxb6 HW6.out.1.behind htk'
          rw [HX.out] at htaken
          have HW2:=mkA (show EVP P w0 (w6.setCell ⟨x,0,none⟩ lv') dv (ovOf og) ⟨r,bad1⟩ from ⟨htaken.1,AllP.rest HEV1.out.2⟩)
          have HGW2:=mkA (grown_trans HG6.out htaken.2)
          clear hxb6 htaken htk'
          rcases hlv with ⟨hc,hr0,rfl⟩ | ⟨hc,rfl⟩
          · subst hc
            go_wp2_with (first | (go_at_call 69;(with_reducible refine (bit_calls _ _).mono ?_);rintro e w8 ⟨rfl,rfl⟩))
            go_ret
            exact ⟨rfl,HW2.out,HGW2.out⟩
          · go_wp2_with (first | (go_at_call 69;(with_reducible refine (bit_calls _ _).mono ?_);rintro e w8 ⟨rfl,rfl⟩))
            go_ret
            exact ⟨rfl,HW2.out,HGW2.out⟩
      · cases cl
        · rw [Bool.not_false,Bool.true_and,if_pos rfl] at hD
          subst hD
          go_enter Tryz.func139,Tryz.ntmps139
          go_wp2_with (first | (go_at_call 86;(with_reducible refine HI1.out.mono ?_);rintro e w1 ⟨rfl,hev,hg⟩;obtain ⟨g,o,c,hxb,hc1,hc2,hgl,a0,a1,a2,a3,htk⟩:=hev.1.opened rfl;have HTK:=mkA htk;rw [HX.out] at hxb hgl;have x0:w1.cell? ⟨x,0,none⟩=some (.slice (some ⟨g,o,none⟩) (r.length + 1) c):=(by rw [blk_cell hxb];rfl);have x1:w1.cell? ⟨x,1,none⟩=some dv:=(by rw [blk_cell hxb];rfl);have hxl:=blk_lt hxb;have HXB:=mkA hxb;have HEV1:=mkA hev;have HG1:=mkA hg;clear hev hg hxb htk) | (go_at_call 89;(refine (isName_calls t _).mono ?_);rintro e w5 ⟨rfl,hg⟩;have y0:=hg.cell x0 (by simp);have y1:=hg.cell x1 (by simp);have b2:=hg.cell a2 (by simp);have HXB5:=mkA ((hg.block x hxl (by simp)).trans HXB.out);have HW5:=mkA (HEV1.out.grown hg);have HG5:=mkA (grown_trans HG1.out (grown_any hg));clear hg))
          have hj0:(0:Int) ≤ (r.length:Int):=by omega
          have hj1:(0:Int) < (r.length:Int) + 1:=by omega
          go_region_held3 (fun (W:World)=>W.cell? ⟨x,1,none⟩=some dv∧W.cell? ⟨x,0,none⟩=some (.slice (some ⟨g,o,none⟩) (r.length + 1) c)∧W.cell? ⟨g,o + 2,none⟩=some (.string t.t)) (first | exact ⟨y1,y0,b2⟩ | exact ⟨y16,y06,b26⟩) (first | (go_at_call 91;(refine (HVL.out _ (EV.grown HW5.out.1 (by repeat (first | exact World.grownBy.refl _ _ | apply grown_drew | apply grown_drewN))).behind).mono ?_);rintro e w6 ⟨rfl,hg⟩;have hg6:w5.grownBy w6 none:=⟨hg.os,hg.tape,hg.output,hg.size,hg.block⟩;have y16:=hg6.cell y1 (by simp);have y06:=hg6.cell y0 (by simp);have b26:=hg6.cell b2 (by simp);have hxb6:=(hg6.block x (blk_lt HXB5.out) (by simp)).trans HXB5.out;have z06:=blk_frozen hxb6 0;have HXB6:=mkA hxb6;have HW6:=mkA (HW5.out.grown hg6);have HG6:=mkA (grown_trans HG5.out (grown_any hg6));clear hg hg6 hxb6))
          all_goals
            have hxb6:=HXB6.out
            rw [← HX.out] at hxb6
            have htk2:∃ lv',(c=1∧r.length=0∧lv'=Value.slice (some ⟨g,o,none⟩) 0 0 ∨ ¬ c=1∧lv'=Value.slice (some ⟨g,o + 4,none⟩) r.length (c - 1))∧Tks w0 lv' r:=by
              by_cases hc:c=1
              · have hr0:r.length=0:=by omega
                refine ⟨_,.inl ⟨hc,hr0,rfl⟩,?_⟩
                obtain rfl:r=[]:=List.eq_nil_of_length_eq_zero hr0
                exact Tks.none
              · exact ⟨_,.inr ⟨hc,rfl⟩,HTK.out.tail⟩
            obtain ⟨lv',hlv,htk'⟩:=htk2
            have htaken:=EV.taken (r:=r) (l:=[]) hxb6 HW6.out.1.behind htk'
            rw [HX.out] at htaken
            have HW2:=mkA (show EVP P w0 (w6.setCell ⟨x,0,none⟩ lv') dv (ovOf og) ⟨r,bad1⟩ from ⟨htaken.1,AllP.rest HEV1.out.2⟩)
            have HGW2:=mkA (grown_trans HG6.out htaken.2)
            clear hxb6 htaken htk'
            rcases hlv with ⟨hc,hr0,rfl⟩ | ⟨hc,rfl⟩
            · subst hc
              go_wp2_with (first | (go_at_call 86;(with_reducible refine (HI3.out _ HW2.out).mono ?_);rintro e w7 ⟨rfl,hev,hg⟩;have HEV7:=mkA hev;have HG7:=mkA hg;clear hev hg) | (go_at_call 137;(refine (HFA.out _ ⟨r,bad1⟩ HEV7.out).mono ?_);rintro e w9 ⟨rfl,hev,hg⟩;have HEV9:=mkA hev;have HG9:=mkA hg;clear hev hg))
              go_ret
              exact ⟨rfl,HEV9.out,grown_trans HGW2.out (grown_trans HG7.out HG9.out)⟩
            · go_wp2_with (first | (go_at_call 86;(with_reducible refine (HI3.out _ HW2.out).mono ?_);rintro e w7 ⟨rfl,hev,hg⟩;have HEV7:=mkA hev;have HG7:=mkA hg;clear hev hg) | (go_at_call 137;(refine (HFA.out _ ⟨r,bad1⟩ HEV7.out).mono ?_);rintro e w9 ⟨rfl,hev,hg⟩;have HEV9:=mkA hev;have HG9:=mkA hg;clear hev hg))
              go_ret
              exact ⟨rfl,HEV9.out,grown_trans HGW2.out (grown_trans HG7.out HG9.out)⟩
        · rw [Bool.not_true,Bool.true_and,if_neg Bool.false_ne_true,if_pos rfl] at hD
          subst hD
          go_enter Tryz.func139,Tryz.ntmps139
          go_wp2_with (first | (go_at_call 86;(with_reducible refine HI1.out.mono ?_);rintro e w1 ⟨rfl,hev,hg⟩;obtain ⟨g,o,c,hxb,hc1,hc2,hgl,a0,a1,a2,a3,htk⟩:=hev.1.opened rfl;have HTK:=mkA htk;rw [HX.out] at hxb hgl;have x0:w1.cell? ⟨x,0,none⟩=some (.slice (some ⟨g,o,none⟩) (r.length + 1) c):=(by rw [blk_cell hxb];rfl);have x1:w1.cell? ⟨x,1,none⟩=some dv:=(by rw [blk_cell hxb];rfl);have hxl:=blk_lt hxb;have HXB:=mkA hxb;have HEV1:=mkA hev;have HG1:=mkA hg;clear hev hg hxb htk) | (go_at_call 89;(refine (isName_calls t _).mono ?_);rintro e w5 ⟨rfl,hg⟩;have y0:=hg.cell x0 (by simp);have y1:=hg.cell x1 (by simp);have b2:=hg.cell a2 (by simp);have HXB5:=mkA ((hg.block x hxl (by simp)).trans HXB.out);have HW5:=mkA (HEV1.out.grown hg);have HG5:=mkA (grown_trans HG1.out (grown_any hg));clear hg))
          have hj0:(0:Int) ≤ (r.length:Int):=by omega
          have hj1:(0:Int) < (r.length:Int) + 1:=by omega
          go_region_held3 (fun (W:World)=>W.cell? ⟨x,1,none⟩=some dv∧W.cell? ⟨x,0,none⟩=some (.slice (some ⟨g,o,none⟩) (r.length + 1) c)∧W.cell? ⟨g,o + 2,none⟩=some (.string t.t)) (first | exact ⟨y1,y0,b2⟩ | exact ⟨y16,y06,b26⟩) (first | (go_at_call 91;(refine (HVL.out _ (EV.grown HW5.out.1 (by repeat (first | exact World.grownBy.refl _ _ | apply grown_drew | apply grown_drewN))).behind).mono ?_);rintro e w6 ⟨rfl,hg⟩;have hg6:w5.grownBy w6 none:=⟨hg.os,hg.tape,hg.output,hg.size,hg.block⟩;have y16:=hg6.cell y1 (by simp);have y06:=hg6.cell y0 (by simp);have b26:=hg6.cell b2 (by simp);have hxb6:=(hg6.block x (blk_lt HXB5.out) (by simp)).trans HXB5.out;have z06:=blk_frozen hxb6 0;have HXB6:=mkA hxb6;have HW6:=mkA (HW5.out.grown hg6);have HG6:=mkA (grown_trans HG5.out (grown_any hg6));clear hg hg6 hxb6))
          all_goals
            have hxb6:=HXB6.out
            rw [← HX.out] at hxb6
            have htk2:∃ lv',(c=1∧r.length=0∧lv'=Value.slice (some ⟨g,o,none⟩) 0 0 ∨ ¬ c=1∧lv'=Value.slice (some ⟨g,o + 4,none⟩) r.length (c - 1))∧Tks w0 lv' r:=by
              by_cases hc:c=1
              · have hr0:r.length=0:=by omega
                refine ⟨_,.inl ⟨hc,hr0,rfl⟩,?_⟩
                obtain rfl:r=[]:=List.eq_nil_of_length_eq_zero hr0
                exact Tks.none
              · exact ⟨_,.inr ⟨hc,rfl⟩,HTK.out.tail⟩
            obtain ⟨lv',hlv,htk'⟩:=htk2
            have htaken:=EV.taken (r:=r) (l:=[]) hxb6 HW6.out.1.behind htk'
            rw [HX.out] at htaken
            have HW2:=mkA (show EVP P w0 (w6.setCell ⟨x,0,none⟩ lv') dv (ovOf og) ⟨r,bad1⟩ from ⟨htaken.1,AllP.rest HEV1.out.2⟩)
            have HGW2:=mkA (grown_trans HG6.out htaken.2)
            clear hxb6 htaken htk'
            rcases hlv with ⟨hc,hr0,rfl⟩ | ⟨hc,rfl⟩
            · subst hc
              go_wp2_with (first | (go_at_call 86;(with_reducible refine (HI3.out _ HW2.out).mono ?_);rintro e w7 ⟨rfl,hev,hg⟩;have HEV7:=mkA hev;have HG7:=mkA hg;clear hev hg) | (go_at_call 69;(with_reducible refine (bit_calls _ _).mono ?_);rintro e w8 ⟨rfl,rfl⟩))
              go_ret
              exact ⟨rfl,HEV7.out,grown_trans HGW2.out HG7.out⟩
            · go_wp2_with (first | (go_at_call 86;(with_reducible refine (HI3.out _ HW2.out).mono ?_);rintro e w7 ⟨rfl,hev,hg⟩;have HEV7:=mkA hev;have HG7:=mkA hg;clear hev hg) | (go_at_call 69;(with_reducible refine (bit_calls _ _).mono ?_);rintro e w8 ⟨rfl,rfl⟩))
              go_ret
              exact ⟨rfl,HEV7.out,grown_trans HGW2.out HG7.out⟩
def OneStep (num val:ByteArray → Int × Bool) (P:Lx.Tok → Prop) (w0:World) (dv:Value) (og:Nat):Prop:=∀ m,(∀ k,k < m → OperC num val P w0 dv og k) → OneC num val P w0 dv og m
theorem bin_all {num val:ByteArray → Int × Bool} {P:Lx.Tok → Prop} {w0:World} {dv:Value} {og:Nat} (hC:EnvC num val P w0 dv og) (hO:OneStep num val P w0 dv og):∀ m,BinC num val P w0 dv og m∧OneC num val P w0 dv og m∧OperC num val P w0 dv og m:=by
  intro m
  induction m using Nat.strongRecOn with
  | ind m ih=>exact ⟨bin_step hC m (fun k hk=>(ih k hk).1) (fun k hk=>(ih k hk).2.1),hO m (fun k hk=>(ih k hk).2.2),oper_step hC (defined_holds hC) m (fun k hk=>(ih k hk).1)⟩
namespace Lx
theorem signs_cons (t:Tok) (r:List Tok) (h:isSign t=true):signsOf (t :: r)=t.t :: signsOf r∧afterSigns (t :: r)=afterSigns r:=by
  unfold signsOf afterSigns
  rw [List.takeWhile_cons,List.dropWhile_cons,if_pos h,if_pos h]
  exact ⟨rfl,rfl⟩
theorem signs_stop (l:List Tok) (bad:Bool) (h1:isS ⟨l,bad⟩ [33]=false) (h2:isS ⟨l,bad⟩ [45]=false) (h3:isS ⟨l,bad⟩ [43]=false):signsOf l=[]∧afterSigns l=l:=by
  cases l with
  | nil=>exact ⟨rfl,rfl⟩
  | cons t r =>
    have hn:isSign t=false:=by
      unfold isS at h1 h2 h3
      dsimp only at h1 h2 h3
      unfold isSign
      cases hk:decide (t.k=6)
      · rfl
      · rw [hk,Bool.true_and] at h1 h2 h3
        rw [h1,h2,h3];rfl
    unfold signsOf afterSigns
    rw [List.takeWhile_cons,List.dropWhile_cons,hn]
    exact ⟨rfl,rfl⟩
theorem sign_came (l:List Tok) (bad:Bool) (g:List UInt8) (hg:g=[33] ∨ g=[45] ∨ g=[43]) (h:isS ⟨l,bad⟩ g=true):∃ t r,l=t :: r∧isSign t=true∧t.t.toList=g:=by
  cases l with
  | nil=>cases h
  | cons t r =>
    unfold isS at h
    dsimp only at h
    rw [Bool.and_eq_true] at h
    refine ⟨t,r,rfl,?_,beq_iff_eq.mp h.2⟩
    unfold isSign
    rw [h.1,Bool.true_and]
    rcases hg with rfl | rfl | rfl
    · rw [h.2];rfl
    · rw [h.2];simp
    · rw [h.2];simp
end Lx
theorem bytes_toList {b:ByteArray} {l:List UInt8} (h:b.toList=l):b=⟨l.toArray⟩:=by
  rw [ByteArray.toList_eq] at h
  cases b with
  | mk d=>subst h;simp
namespace Lx
theorem fuel_more (num val:ByteArray → Int × Bool):∀ m:Nat,
    (∀ lv S q,binF num val m lv S=some q → binF num val (m + 1) lv S=some q)∧(∀ lv v S q,loopF num val m lv v S=some q → loopF num val (m + 1) lv v S=some q) ∧
    (∀ S q,oneF num val m S=some q → oneF num val (m + 1) S=some q)∧(∀ S q,operF num val m S=some q → operF num val (m + 1) S=some q):=by
  intro m
  induction m with
  | zero =>
    refine ⟨fun lv S q h => ?_,fun lv v S q h => ?_,fun S q h => ?_,fun S q h => ?_⟩
    · unfold binF at h;cases h
    · unfold loopF at h;cases h
    · unfold oneF at h;cases h
    · unfold operF at h;cases h
  | succ m ih =>
    obtain ⟨i1,i2,i3,i4⟩:=ih
    refine ⟨fun lv S q h => ?_,fun lv v S q h => ?_,fun S q h => ?_,fun S q h => ?_⟩
    · unfold binF at h ⊢
      split
      · rename_i e
        rw [if_pos e] at h
        exact i3 S q h
      · rename_i e
        rw [if_neg e] at h
        cases hb:binF num val m (lv + 1) S with
        | none=>rw [hb] at h;cases h
        | some p =>
          rw [hb] at h
          rw [i1 _ _ _ hb]
          exact i2 _ _ _ _ h
    · unfold loopF at h ⊢
      split
      · rename_i e
        rw [if_pos e] at h
        exact h
      · rename_i e
        rw [if_neg e] at h
        cases hf:findOp lv S with
        | none=>rw [hf] at h;exact h
        | some j =>
          rw [hf] at h
          dsimp only at h ⊢
          cases hb:binF num val m (lv + 1) S.tl with
          | none=>rw [hb] at h;cases h
          | some p =>
            rw [hb] at h
            rw [i1 _ _ _ hb]
            exact i2 _ _ _ _ h
    · unfold oneF at h ⊢
      cases hb:operF num val m ⟨afterSigns S.l,S.bad⟩ with
      | none=>rw [hb] at h;cases h
      | some p =>
        rw [hb] at h
        rw [i4 _ _ hb]
        exact h
    · unfold operF at h ⊢
      split
      · rename_i e
        rw [if_pos e] at h
        exact h
      · rename_i e
        rw [if_neg e] at h
        cases hl:S.l with
        | nil=>rw [hl] at h;exact h
        | cons t r =>
          rw [hl] at h
          dsimp only at h ⊢
          split
          · rename_i e2
            rw [if_pos e2] at h
            cases hb:binF num val m 1 S.tl with
            | none=>rw [hb] at h;cases h
            | some p =>
              rw [hb] at h
              rw [i1 _ _ _ hb]
              exact h
          · rename_i e2
            rw [if_neg e2] at h
            exact h
theorem bin_fuel {num val:ByteArray → Int × Bool} {m m' lv:Nat} {S:ES} {q:Int × ES} (h:binF num val m lv S=some q) (hm:m ≤ m'):binF num val m' lv S=some q:=by
  obtain ⟨d,rfl⟩:=Nat.le.dest hm
  clear hm
  induction d with
  | zero=>exact h
  | succ d ih=>exact (fuel_more num val (m + d)).1 _ _ _ ih
theorem loop_fuel {num val:ByteArray → Int × Bool} {m m' lv:Nat} {v:Int} {S:ES} {q:Int × ES} (h:loopF num val m lv v S=some q) (hm:m ≤ m'):loopF num val m' lv v S=some q:=by
  obtain ⟨d,rfl⟩:=Nat.le.dest hm
  clear hm
  induction d with
  | zero=>exact h
  | succ d ih=>exact (fuel_more num val (m + d)).2.1 _ _ _ _ ih
theorem isS_ne {S:ES} {g:List UInt8} (h:isS S g=true):S.l ≠ []:=by
  intro e;unfold isS at h;rw [e] at h;cases h
theorem findFrom_ne {lv:Nat} {S:ES}:∀ {os:List (List UInt8 × Nat)} {i j:Nat},findFrom lv S os i=some j → S.l ≠ []
  | [],i,j,h=>by unfold findFrom at h;cases h
  | o :: r,i,j,h=>by
    unfold findFrom at h
    split at h
    · rename_i e
      rw [Bool.and_eq_true] at e
      exact isS_ne e.2
    · exact findFrom_ne h
theorem tl_lt {S:ES} (h:S.l ≠ []):S.tl.l.length < S.l.length:=by
  unfold ES.tl
  cases hl:S.l with
  | nil=>exact absurd hl h
  | cons t r=>simp
theorem tl_le (S:ES):S.tl.l.length ≤ S.l.length:=by
  unfold ES.tl
  cases S.l <;> simp
theorem after_le (l:List Tok):(afterSigns l).length ≤ l.length:=by
  unfold afterSigns
  exact (List.dropWhile_sublist _).length_le
theorem defined_le (val:ByteArray → Int × Bool) (S:ES):(definedE val S).2.l.length ≤ S.l.length:=by
  have hT:(if isS S [40]=true then S.tl else S).l.length ≤ S.l.length:=by
    split
    · exact tl_le S
    · exact Nat.le_refl _
  unfold definedE
  obtain ⟨U,hU⟩:∃ U,(if isS S [40]=true then S.tl else S)=U:=⟨_,rfl⟩
  rw [hU] at hT ⊢
  dsimp only
  cases hl:U.l with
  | nil=>show U.l.length ≤ _;exact hT
  | cons t r =>
    rw [hl] at hT
    simp only [List.length_cons] at hT
    dsimp only
    split
    · split
      · dsimp only;omega
      · dsimp only
        split
        · dsimp only;rw [List.length_tail];omega
        · dsimp only;omega
    · show U.l.length ≤ _
      rw [hl];simpa using hT
theorem fuel_some (num val:ByteArray → Int × Bool):∀ n:Nat,(∀ (d lv:Nat) (S:ES),d + lv=7 → S.l.length ≤ n → ∃ m q,binF num val m lv S=some q∧q.2.l.length ≤ S.l.length):=by
  intro n
  induction n using Nat.strongRecOn with
  | ind n ih =>
    -- an operand
    have hoper:∀ S:ES,S.l.length ≤ n → ∃ m q,operF num val m S=some q∧q.2.l.length ≤ S.l.length:=by
      intro S hS
      by_cases hb:S.bad=true
      · exact ⟨1,_,by unfold operF;rw [if_pos hb],Nat.le_refl _⟩
      · cases hl:S.l with
        | nil=>exact ⟨1,(0,S.fail),by unfold operF;rw [if_neg hb,hl],by show S.l.length ≤ _;rw [hl];exact Nat.le_refl _⟩
        | cons t r =>
          have hlt:S.tl.l.length < S.l.length:=tl_lt (by rw [hl];simp)
          have hlr:S.l.length=r.length + 1:=by rw [hl];rfl
          by_cases hp:isS S [40]=true
          · obtain ⟨m,q,h1,h2⟩:=ih (S.tl.l.length) (by omega) 6 1 S.tl rfl (Nat.le_refl _)
            obtain ⟨v,T⟩:=q
            by_cases hc:isS T [41]=true
            · refine ⟨m + 1,(v,T.tl),by unfold operF;rw [if_neg hb,hl];dsimp only;rw [if_pos hp,h1];dsimp only;rw [if_pos hc],?_⟩
              have:=tl_le T
              simp only [List.length_cons]
              dsimp only at h2 ⊢
              omega
            · refine ⟨m + 1,(0,T.fail),by unfold operF;rw [if_neg hb,hl];dsimp only;rw [if_pos hp,h1];dsimp only;rw [if_neg hc],?_⟩
              show T.l.length ≤ _
              simp only [List.length_cons]
              dsimp only at h2
              omega
          · have h9:S.tl.l.length ≤ (t :: r).length:=by simp only [List.length_cons];omega
            by_cases h3:t.k=3
            · by_cases hn:(num t.t).2=true
              · exact ⟨1,((num t.t).1,S.tl),by unfold operF;rw [if_neg hb,hl];dsimp only;rw [if_neg hp,if_pos h3,if_pos hn],h9⟩
              · exact ⟨1,(0,S.tl.fail),by unfold operF;rw [if_neg hb,hl];dsimp only;rw [if_neg hp,if_pos h3,if_neg hn],h9⟩
            · by_cases hd:(t.t.toList == [100,101,102,105,110,101,100])=true
              · exact ⟨1,definedE val S.tl,by unfold operF;rw [if_neg hb,hl];dsimp only;rw [if_neg hp,if_neg h3,if_pos hd],Nat.le_trans (defined_le val S.tl) h9⟩
              · by_cases h1:t.k=1
                · exact ⟨1,((val t.t).1,S.tl),by unfold operF;rw [if_neg hb,hl];dsimp only;rw [if_neg hp,if_neg h3,if_neg hd,if_pos h1],h9⟩
                · exact ⟨1,(0,S.tl.fail),by unfold operF;rw [if_neg hb,hl];dsimp only;rw [if_neg hp,if_neg h3,if_neg hd,if_neg h1],h9⟩
    intro d
    induction d with
    | zero =>
      intro lv S hlv hS
      obtain rfl:lv=7:=by omega
      obtain ⟨m,q,h1,h2⟩:=hoper ⟨afterSigns S.l,S.bad⟩ (Nat.le_trans (after_le S.l) hS)
      obtain ⟨v,T⟩:=q
      refine ⟨m + 2,(signed (signsOf S.l) v,T),?_,Nat.le_trans h2 (after_le S.l)⟩
      unfold binF
      rw [if_pos rfl]
      unfold oneF
      rw [h1]
    | succ d ihd =>
      intro lv S hlv hS
      have hloop:∀ k:Nat,k ≤ n → ∀ (S':ES) (v:Int),S'.l.length ≤ k → ∃ m q,loopF num val m lv v S'=some q∧q.2.l.length ≤ S'.l.length:=by
        intro k
        induction k with
        | zero =>
          intro hk S' v hS'
          refine ⟨1,(v,S'),?_,Nat.le_refl _⟩
          unfold loopF
          split
          · rfl
          · cases hf:findOp lv S' with
            | none=>rfl
            | some j =>
              have:=findFrom_ne hf
              exact absurd (List.eq_nil_of_length_eq_zero (by omega)) this
        | succ k ihk =>
          intro hk S' v hS'
          by_cases hb:S'.bad=true
          · exact ⟨1,(v,S'),by unfold loopF;rw [if_pos hb],Nat.le_refl _⟩
          · cases hf:findOp lv S' with
            | none=>exact ⟨1,(v,S'),by unfold loopF;rw [if_neg hb,hf],Nat.le_refl _⟩
            | some j =>
              have hlt:=tl_lt (findFrom_ne hf)
              obtain ⟨m1,q1,e1,e2⟩:=ihd (lv + 1) S'.tl (by omega) (by omega)
              obtain ⟨u,T⟩:=q1
              dsimp only at e2
              obtain ⟨m2,q2,e3,e4⟩:=ihk (by omega) T (opDo j v u) (by omega)
              refine ⟨(m1 + m2) + 1,q2,?_,by omega⟩
              unfold loopF
              rw [if_neg hb,hf]
              dsimp only
              rw [bin_fuel e1 (Nat.le_add_right _ _)]
              exact loop_fuel e3 (Nat.le_add_left _ _)
      obtain ⟨m1,q1,e1,e2⟩:=ihd (lv + 1) S (by omega) hS
      obtain ⟨v,T⟩:=q1
      dsimp only at e2
      obtain ⟨m2,q2,e3,e4⟩:=hloop n (Nat.le_refl _) T v (by omega)
      refine ⟨(m1 + m2) + 1,q2,?_,by omega⟩
      unfold binF
      rw [if_neg (by omega),bin_fuel e1 (Nat.le_add_right _ _)]
      exact loop_fuel e3 (Nat.le_add_left _ _)
theorem eval_some (num val:ByteArray → Int × Bool) (l:List Tok):∃ m R,evalF num val m l=some R:=by
  obtain ⟨m,q,h1,-⟩:=fuel_some num val l.length 6 1 ⟨l,false⟩ rfl (Nat.le_refl _)
  obtain ⟨v,T⟩:=q
  refine ⟨m,if (T.bad || !T.l.isEmpty)=true then (0,false) else (v,true),?_⟩
  unfold evalF
  rw [h1]
  dsimp only
  split <;> rfl
end Lx
end Go.Proofs.YtjnafjgonoficaaGreatDoor
