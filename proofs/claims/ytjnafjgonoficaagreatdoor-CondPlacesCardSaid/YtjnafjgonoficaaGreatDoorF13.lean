/-
  The reference's expression reader: its state in memory; whether a sign comes, and taking it. Conditions: the reader's block is its own; the words lie in memory.
  The reference's operators. Conditions: the numbers are int64's.
  The reference's signs with one side. Conditions: the reader's block is its own; what operands come to is known.
  The reference's operands. Conditions: the reader's block is its own; what numbers and names come to is known; what expressions come to is known at less fuel.
-/
import Derived.Test.YtjnafjgonoficaaGreatDoorF12
set_option linter.unusedVariables false
set_option linter.unusedSimpArgs false
namespace Go.Proofs.YtjnafjgonoficaaGreatDoor
open Go.RowKit Go.Proofs.YtjnafjgonoficaaGreatDoorW.PrintWords
def RC (w0 w:World) (A:Option Addr) (n c:Nat) (dv:Value) (L:List Lx.Tok) (S:Lx.ES):Prop:=Tks w0 (.slice A n c) L∧∃ i:Nat,i ≤ n∧S.l=L.drop i∧w.heap[w0.heap.size]? = some (.cells #[.slice A n c,.int .i64 i,.bool S.bad,dv] 124 (0,0))∧Below w0.heap.size w0 w
theorem RC.grown {w0 w w':World} {A:Option Addr} {n c:Nat} {dv:Value} {L:List Lx.Tok} {S:Lx.ES} (h:RC w0 w A n c dv L S) (hg:w.grownBy w' none):RC w0 w' A n c dv L S:=by
  obtain ⟨h0,i,h1,h2,h3,h4⟩:=h
  exact ⟨h0,i,h1,h2,(hg.block _ (blk_lt h3) (by simp)).trans h3,h4.grown hg (by have:=blk_lt h3;omega) (fun k hk=>by cases hk)⟩
theorem RC.len {w0 w:World} {A:Option Addr} {n c:Nat} {dv:Value} {L:List Lx.Tok} {S:Lx.ES} (h:RC w0 w A n c dv L S):L.length=n:=by
  obtain ⟨⟨A',c',e,-⟩,-⟩:=h
  simp only [Value.slice.injEq] at e
  exact e.2.1.symm
theorem RC.at {w0 w:World} {A:Option Addr} {n c:Nat} {dv:Value} {L:List Lx.Tok} {S:Lx.ES} {t:Lx.Tok} {r:List Lx.Tok} (h:RC w0 w A n c dv L S) (hl:S.l=t :: r) :
    ∃ (g o i:Nat),A=some ⟨g,o,none⟩∧i < n∧S.l=L.drop i∧r=L.drop (i + 1)∧w.heap[w0.heap.size]? = some (.cells #[.slice A n c,.int .i64 i,.bool S.bad,dv] 124 (0,0))∧Below w0.heap.size w0 w∧g < w0.heap.size ∧
      w.cell? ⟨g,o + i * 4,none⟩=some (.int .i64 t.k)∧w.cell? ⟨g,o + i * 4 + 1,none⟩=some (.string t.b)∧w.cell? ⟨g,o + i * 4 + 2,none⟩=some (.string t.t)∧w.cell? ⟨g,o + i * 4 + 3,none⟩=some (.int .i64 t.a):=by
  have hn:=h.len
  obtain ⟨⟨A',c',e,h1,h2,hor⟩,i,hi,hd,hb,hw⟩:=h
  simp only [Value.slice.injEq] at e
  obtain ⟨rfl,-,rfl⟩:=e
  have hd0:=hd
  rw [hd] at hl
  have hil:i < L.length:=by
    rcases Nat.lt_or_ge i L.length with h | h
    · exact h
    · rw [List.drop_eq_nil_of_le h] at hl;cases hl
  rw [List.drop_eq_getElem_cons hil] at hl
  simp only [List.cons.injEq] at hl
  obtain ⟨ht,hr⟩:=hl
  have hti:L[i]? = some t:=by rw [List.getElem?_eq_getElem hil,ht]
  obtain ⟨g,o,rfl,hat,hgl⟩:=hor.resolve_left (fun e=>by rw [e] at hil;simp at hil)
  obtain ⟨a0,a1,a2,a3⟩:=hat i t hti
  exact ⟨g,o,i,rfl,by omega,hd0,hr.symm,hb,hw,hgl,(hw.cell hgl).trans a0,(hw.cell hgl).trans a1,(hw.cell hgl).trans a2,(hw.cell hgl).trans a3⟩
namespace Lx
def isR (S:ES) (g:List UInt8):Bool:=!S.bad && isS S g
end Lx
set_option maxRecDepth 100000 in
set_option maxHeartbeats 4000000 in
theorem isr_calls (w0 w:World) (A:Option Addr) (n c:Nat) (dv:Value) (L:List Lx.Tok) (S:Lx.ES) (gs:List UInt8) (gb:ByteArray) (hgb:gb.toList=gs) (hn5:n ≤ 100000) (h:RC w0 w A n c dv L S) :
    Calls Tryz.prog 143 #[.pointer (some ⟨w0.heap.size,0,none⟩),.string gb] w fun e w'=>e=.returned (.bool (Lx.isR S gs))∧w.grownBy w' none:=by
  obtain ⟨x,hx⟩:∃ x,w0.heap.size=x:=⟨_,rfl⟩
  have HR:=mkA h
  have hnl:=h.len
  unfold Lx.isR
  obtain ⟨l,bad⟩:=S
  cases bad
  · cases hl:l with
    | nil =>
      have hs:Lx.isS ⟨[],false⟩ gs=false:=rfl
      rw [hs]
      subst hl
      obtain ⟨-,i,hi,hd,hb,hw⟩:=h
      have hin:i=n:=by
        dsimp only at hd
        have:=congrArg List.length hd
        simp at this
        omega
      subst hin
      rw [hx] at hb ⊢
      have hxl:=blk_lt hb
      have y0:w.cell? ⟨x,0,none⟩=some (.slice A i c):=by rw [blk_cell hb];rfl
      have y1:w.cell? ⟨x,1,none⟩=some (.int .i64 i):=by rw [blk_cell hb];rfl
      have y2:w.cell? ⟨x,2,none⟩=some (.bool false):=by rw [blk_cell hb];rfl
      clear hb hw hd HR hs hx hnl
      go_enter Tryz.func143,Tryz.ntmps143
      go_wp2_with fail
      go_quiet (fail)
      go_wp2_with fail
      go_ret
      exact ⟨rfl,grown_drewN (World.grownBy.refl _ _) _⟩
    | cons t r =>
      subst hl
      obtain ⟨g,o,i,rfl,hi,-,hr,hb,hw,hgl,a0,a1,a2,a3⟩:=h.at rfl
      rw [hx] at hb ⊢
      have hxl:=blk_lt hb
      have hgw:g < w.heap.size:=Nat.lt_of_lt_of_le hgl hw.size
      have y0:w.cell? ⟨x,0,none⟩=some (.slice (some ⟨g,o,none⟩) n c):=by rw [blk_cell hb];rfl
      have y1:w.cell? ⟨x,1,none⟩=some (.int .i64 i):=by rw [blk_cell hb];rfl
      have y2:w.cell? ⟨x,2,none⟩=some (.bool false):=by rw [blk_cell hb];rfl
      have hs:Lx.isS ⟨t :: r,false⟩ gs=((t.k == 6) && (t.t.toList == gs)):=rfl
      rw [hs]
      have hi0:(0:Int) ≤ (i:Int):=Int.natCast_nonneg _
      have hin:(i:Int) < (n:Int):=by omega
      obtain ⟨p,hp⟩:∃ p,(t.k == 6)=p:=⟨_,rfl⟩
      obtain ⟨q,hq⟩:∃ q,(t.t.toList == gs)=q:=⟨_,rfl⟩
      rw [hp,hq]
      clear hb hw HR hs hx hr hgl a1 a3
      cases p
      · clear hq
        go_enter Tryz.func143,Tryz.ntmps143
        go_wp2_with fail
        go_quiet (fail)
        go_wp2_with fail
        go_ret
        exact ⟨rfl,grown_drewN (World.grownBy.refl _ _) _⟩
      · go_enter Tryz.func143,Tryz.ntmps143
        go_wp2_with fail
        go_quiet (fail)
        go_wp2_with fail
        go_ret
        exact ⟨by cases q <;> rfl,grown_drewN (World.grownBy.refl _ _) _⟩
  · obtain ⟨-,i,hi,hd,hb,hw⟩:=h
    rw [hx] at hb ⊢
    have hxl:=blk_lt hb
    have y2:w.cell? ⟨x,2,none⟩=some (.bool true):=by rw [blk_cell hb];rfl
    clear hb hw hd HR hx hnl
    go_enter Tryz.func143,Tryz.ntmps143
    go_wp2_with fail
    go_quiet (fail)
    go_wp2_with fail
    go_ret
    exact ⟨rfl,grown_drewN (World.grownBy.refl _ _) _⟩
theorem RC.step {w0 w w1:World} {A:Option Addr} {n c:Nat} {dv:Value} {L:List Lx.Tok} {S:Lx.ES} {i:Nat} (h:RC w0 w A n c dv L S) (hi:i < n) (hd:S.l=L.drop i) (hb:w1.heap[w0.heap.size]? = some (.cells #[.slice A n c,.int .i64 (i + 1:Nat),.bool S.bad,dv] 124 (0,0))) (hw:Below w0.heap.size w0 w1):RC w0 w1 A n c dv L S.tl:=by
  refine ⟨h.1,i + 1,hi,?_,hb,hw⟩
  unfold Lx.ES.tl
  dsimp only
  rw [hd,List.tail_drop]
set_option maxRecDepth 100000 in
set_option maxHeartbeats 4000000 in
theorem taker_calls (w0 w:World) (A:Option Addr) (n c:Nat) (dv:Value) (L:List Lx.Tok) (S:Lx.ES) (gs:List UInt8) (gb:ByteArray) (hgb:gb.toList=gs) (hn5:n ≤ 100000) (h:RC w0 w A n c dv L S) :
    Calls Tryz.prog 103 #[.pointer (some ⟨w0.heap.size,0,none⟩),.string gb] w fun e w'=>e=.returned (.bool (Lx.isR S gs))∧RC w0 w' A n c dv L (if Lx.isR S gs=true then S.tl else S)∧w.grownBy w' (some w0.heap.size):=by
  have his:=isr_calls w0 w A n c dv L S gs gb hgb hn5 h
  obtain ⟨x,hx⟩:∃ x,w0.heap.size=x:=⟨_,rfl⟩
  rw [hx] at his ⊢
  cases hr:Lx.isR S gs
  · rw [hr] at his
    have HIS:=mkA his
    have HR:=mkA h
    clear his h hr hgb
    go_enter Tryz.func103,Tryz.ntmps103
    go_wp2_with (first | (go_at_call 143;(with_reducible refine HIS.out.mono ?_);rintro e w1 ⟨rfl,hg⟩;have HG:=mkA hg;clear hg))
    go_ret
    exact ⟨rfl,HR.out.grown HG.out,grown_any HG.out⟩
  · rw [hr] at his
    have hne:S.l ≠ []:=by
      unfold Lx.isR at hr
      rw [Bool.and_eq_true] at hr
      exact Lx.isS_ne hr.2
    obtain ⟨t,r,hl⟩:=List.exists_cons_of_ne_nil hne
    obtain ⟨g,o,i,rfl,hi,hd,hrd,hb,hw,hgl,a0,a1,a2,a3⟩:=h.at hl
    rw [hx] at hb
    have HIS:=mkA his
    have HR:=mkA h
    have HB:=mkA hb
    have HD:=mkA hd
    have HW:=mkA hw
    have hw1:IntKind.i64.wrap ((i:Int) + 1)=(i:Int) + 1:=IntWalk.i64_in _ (by omega)
    clear his h hr hgb hne hl hrd hb hw hgl a0 a1 a2 a3 hd
    go_enter Tryz.func103,Tryz.ntmps103
    go_wp2_with (first | (go_at_call 143;(with_reducible refine HIS.out.mono ?_);rintro e w1 ⟨rfl,hg⟩;have hb1:=(hg.block x (blk_lt HB.out) (by simp)).trans HB.out;have y1:w1.cell? ⟨x,1,none⟩=some (.int .i64 i):=(by rw [blk_cell hb1];rfl);have yf:=blk_frozen hb1 1;have hxl:=blk_lt hb1;have HB1:=mkA hb1;have HG:=mkA hg;clear hg hb1))
    go_ret
    have hb2:=blk_set HB1.out 1 (.int .i64 ((i:Int) + 1))
    refine ⟨rfl,HR.out.step hi HD.out (by rw [hx];exact hb2) ?_,grown_trans (grown_any HG.out) (grown_set (World.grownBy.refl _ _) _ _)⟩
    rw [hx] at HW ⊢
    exact (HW.out.grown HG.out (by have:=blk_lt HB.out;omega) (fun k hk=>by cases hk)).setCell (p:=⟨x,1,none⟩) (Nat.le_refl _) _
def InI (a:Int):Prop:=-9223372036854775808 ≤ a∧a ≤ 9223372036854775807
theorem wrap64_inI {a:Int} (h:InI a):wrap64 a=a:=IntWalk.wrap64_in a h
theorem oner_calls (b:Bool) (w:World):Calls Tryz.prog 141 #[.bool b] w fun e w'=>e=.returned (.int .i64 (Lx.bit b))∧w=w':=by
  cases b
  all_goals
    go_enter Tryz.func141,Tryz.ntmps141
    go_wp2_with fail
    go_ret
    exact ⟨rfl,rfl⟩
set_option maxRecDepth 100000 in
theorem comp_or (a b:Int) (w:World):Calls Tryz.prog 104 #[.string ⟨#[124,124]⟩,.int .i64 a,.int .i64 b] w fun e w'=>e=.returned (.int .i64 (Lx.opDo 0 a b))∧w=w':=by
  show Calls _ _ _ _ fun e w'=>e=.returned (.int .i64 (Lx.bit (a != 0 || b != 0)))∧w=w'
  obtain ⟨p,hp⟩:∃ p,(a != 0)=p:=⟨_,rfl⟩
  obtain ⟨q,hq⟩:∃ q,(b != 0)=q:=⟨_,rfl⟩
  rw [hp,hq]
  cases p <;> cases q
  all_goals
    go_enter Tryz.func104,Tryz.ntmps104
    go_wp2_with (go_at_call 141;(refine (oner_calls _ _).mono ?_);rintro e w' ⟨rfl,rfl⟩)
    go_ret
    exact ⟨rfl,rfl⟩
set_option maxRecDepth 100000 in
theorem comp_and (a b:Int) (w:World):Calls Tryz.prog 104 #[.string ⟨#[38,38]⟩,.int .i64 a,.int .i64 b] w fun e w'=>e=.returned (.int .i64 (Lx.opDo 1 a b))∧w=w':=by
  show Calls _ _ _ _ fun e w'=>e=.returned (.int .i64 (Lx.bit (a != 0 && b != 0)))∧w=w'
  obtain ⟨p,hp⟩:∃ p,(a != 0)=p:=⟨_,rfl⟩
  obtain ⟨q,hq⟩:∃ q,(b != 0)=q:=⟨_,rfl⟩
  rw [hp,hq]
  cases p <;> cases q
  all_goals
    go_enter Tryz.func104,Tryz.ntmps104
    go_wp2_with (go_at_call 141;(refine (oner_calls _ _).mono ?_);rintro e w' ⟨rfl,rfl⟩)
    go_ret
    exact ⟨rfl,rfl⟩
set_option maxRecDepth 100000 in
theorem comp_eq (a b:Int) (w:World):Calls Tryz.prog 104 #[.string ⟨#[61,61]⟩,.int .i64 a,.int .i64 b] w fun e w'=>e=.returned (.int .i64 (Lx.opDo 2 a b))∧w=w':=by
  show Calls _ _ _ _ fun e w'=>e=.returned (.int .i64 (Lx.bit (a == b)))∧w=w'
  obtain ⟨p,hp⟩:∃ p,(a == b)=p:=⟨_,rfl⟩
  rw [hp]
  all_goals
    go_enter Tryz.func104,Tryz.ntmps104
    go_wp2_with (go_at_call 141;(refine (oner_calls _ _).mono ?_);rintro e w' ⟨rfl,rfl⟩)
    go_ret
    exact ⟨rfl,rfl⟩
set_option maxRecDepth 100000 in
theorem comp_ne (a b:Int) (w:World):Calls Tryz.prog 104 #[.string ⟨#[33,61]⟩,.int .i64 a,.int .i64 b] w fun e w'=>e=.returned (.int .i64 (Lx.opDo 3 a b))∧w=w':=by
  show Calls _ _ _ _ fun e w'=>e=.returned (.int .i64 (Lx.bit (a != b)))∧w=w'
  obtain ⟨p,hp⟩:∃ p,(a != b)=p:=⟨_,rfl⟩
  rw [hp]
  all_goals
    go_enter Tryz.func104,Tryz.ntmps104
    go_wp2_with (go_at_call 141;(refine (oner_calls _ _).mono ?_);rintro e w' ⟨rfl,rfl⟩)
    go_ret
    exact ⟨rfl,rfl⟩
set_option maxRecDepth 100000 in
theorem comp_lt (a b:Int) (w:World):Calls Tryz.prog 104 #[.string ⟨#[60]⟩,.int .i64 a,.int .i64 b] w fun e w'=>e=.returned (.int .i64 (Lx.opDo 4 a b))∧w=w':=by
  show Calls _ _ _ _ fun e w'=>e=.returned (.int .i64 (Lx.bit (decide (a < b))))∧w=w'
  obtain ⟨p,hp⟩:∃ p,decide (a < b)=p:=⟨_,rfl⟩
  rw [hp]
  all_goals
    go_enter Tryz.func104,Tryz.ntmps104
    go_wp2_with (go_at_call 141;(refine (oner_calls _ _).mono ?_);rintro e w' ⟨rfl,rfl⟩)
    go_ret
    exact ⟨rfl,rfl⟩
set_option maxRecDepth 100000 in
theorem comp_le (a b:Int) (w:World):Calls Tryz.prog 104 #[.string ⟨#[60,61]⟩,.int .i64 a,.int .i64 b] w fun e w'=>e=.returned (.int .i64 (Lx.opDo 5 a b))∧w=w':=by
  show Calls _ _ _ _ fun e w'=>e=.returned (.int .i64 (Lx.bit (decide (a ≤ b))))∧w=w'
  obtain ⟨p,hp⟩:∃ p,decide (a ≤ b)=p:=⟨_,rfl⟩
  rw [hp]
  all_goals
    go_enter Tryz.func104,Tryz.ntmps104
    go_wp2_with (go_at_call 141;(refine (oner_calls _ _).mono ?_);rintro e w' ⟨rfl,rfl⟩)
    go_ret
    exact ⟨rfl,rfl⟩
set_option maxRecDepth 100000 in
theorem comp_gt (a b:Int) (w:World):Calls Tryz.prog 104 #[.string ⟨#[62]⟩,.int .i64 a,.int .i64 b] w fun e w'=>e=.returned (.int .i64 (Lx.opDo 6 a b))∧w=w':=by
  show Calls _ _ _ _ fun e w'=>e=.returned (.int .i64 (Lx.bit (decide (b < a))))∧w=w'
  obtain ⟨p,hp⟩:∃ p,decide (b < a)=p:=⟨_,rfl⟩
  rw [hp]
  all_goals
    go_enter Tryz.func104,Tryz.ntmps104
    go_wp2_with (go_at_call 141;(refine (oner_calls _ _).mono ?_);rintro e w' ⟨rfl,rfl⟩)
    go_ret
    exact ⟨rfl,rfl⟩
set_option maxRecDepth 100000 in
theorem comp_ge (a b:Int) (w:World):Calls Tryz.prog 104 #[.string ⟨#[62,61]⟩,.int .i64 a,.int .i64 b] w fun e w'=>e=.returned (.int .i64 (Lx.opDo 7 a b))∧w=w':=by
  show Calls _ _ _ _ fun e w'=>e=.returned (.int .i64 (Lx.bit (decide (b ≤ a))))∧w=w'
  obtain ⟨p,hp⟩:∃ p,decide (b ≤ a)=p:=⟨_,rfl⟩
  rw [hp]
  all_goals
    go_enter Tryz.func104,Tryz.ntmps104
    go_wp2_with (go_at_call 141;(refine (oner_calls _ _).mono ?_);rintro e w' ⟨rfl,rfl⟩)
    go_ret
    exact ⟨rfl,rfl⟩
set_option maxRecDepth 100000 in
theorem comp_add (a b:Int) (w:World):Calls Tryz.prog 104 #[.string ⟨#[43]⟩,.int .i64 a,.int .i64 b] w fun e w'=>e=.returned (.int .i64 (Lx.opDo 8 a b))∧w=w':=by
  show Calls _ _ _ _ fun e w'=>e=.returned (.int .i64 (wrap64 (a + b)))∧w=w'
  all_goals
    go_enter Tryz.func104,Tryz.ntmps104
    go_wp2_with fail
    go_ret
    exact ⟨rfl,rfl⟩
set_option maxRecDepth 100000 in
theorem comp_sub (a b:Int) (w:World):Calls Tryz.prog 104 #[.string ⟨#[45]⟩,.int .i64 a,.int .i64 b] w fun e w'=>e=.returned (.int .i64 (Lx.opDo 9 a b))∧w=w':=by
  show Calls _ _ _ _ fun e w'=>e=.returned (.int .i64 (wrap64 (a - b)))∧w=w'
  all_goals
    go_enter Tryz.func104,Tryz.ntmps104
    go_wp2_with fail
    go_ret
    exact ⟨rfl,rfl⟩
set_option maxRecDepth 100000 in
theorem comp_mul (a b:Int) (w:World):Calls Tryz.prog 104 #[.string ⟨#[42]⟩,.int .i64 a,.int .i64 b] w fun e w'=>e=.returned (.int .i64 (Lx.opDo 10 a b))∧w=w':=by
  show Calls _ _ _ _ fun e w'=>e=.returned (.int .i64 (wrap64 (a * b)))∧w=w'
  all_goals
    go_enter Tryz.func104,Tryz.ntmps104
    go_wp2_with fail
    go_ret
    exact ⟨rfl,rfl⟩
theorem tmod_sign (a b:Int):(0 ≤ a → 0 ≤ a.tmod b)∧(a ≤ 0 → a.tmod b ≤ 0)∧(a.tmod b).natAbs ≤ a.natAbs:=by
  refine ⟨fun h=>Int.tmod_nonneg b h,fun h => ?_,?_⟩
  · have:=Int.tmod_nonneg b (show 0 ≤ -a by omega)
    rw [Int.neg_tmod] at this
    omega
  · rw [Int.natAbs_tmod]
    exact Nat.mod_le _ _
theorem rem_law (a b:Int) (ha:InI a) (h0:b ≠ 0) (h1:b ≠ -1):Lx.opDo 12 a b=a.tmod b:=by
  show Lx.w64 (Lx.w64 (a - Lx.w64 (Lx.quo a b * b)) - Lx.w64 (a * Lx.bit (b == 0)))=_
  have hb:(b == 0)=false:=beq_eq_false_iff_ne.mpr h0
  rw [hb,show Lx.bit false=0 from rfl,Int.mul_zero]
  unfold Lx.quo
  rw [if_neg h0]
  obtain ⟨s1,s2,s3⟩:=tmod_sign a b
  have hd:=Int.mul_tdiv_add_tmod a b
  have hq:(a.tdiv b).natAbs=a.natAbs / b.natAbs:=Int.natAbs_tdiv a b
  have hqr:InI (a.tdiv b):=by
    unfold InI at ha ⊢
    by_cases hb1:b=1
    · subst hb1
      rw [Int.tdiv_one];exact ha
    · have h2:2 ≤ b.natAbs:=by omega
      have h3:a.natAbs / b.natAbs ≤ a.natAbs / 2:=Nat.div_le_div_left h2 (by decide)
      omega
  unfold Lx.w64
  rw [wrap64_inI hqr]
  obtain ⟨r,hr⟩:∃ r,a.tmod b=r:=⟨_,rfl⟩
  rw [hr] at s1 s2 s3 hd ⊢
  have hp:a.tdiv b * b=a - r:=by rw [Int.mul_comm];omega
  rw [hp]
  unfold InI at ha
  have e1:wrap64 (a - r)=a - r:=wrap64_inI ⟨by omega,by omega⟩
  rw [e1]
  have e2:wrap64 (a - (a - r))=r:=by rw [show a - (a - r)=r by omega];exact wrap64_inI ⟨by omega,by omega⟩
  rw [e2,show wrap64 0=0 by unfold wrap64;omega,Int.sub_zero]
  exact wrap64_inI ⟨by omega,by omega⟩
theorem rem_zero (a:Int) (ha:InI a):Lx.opDo 12 a 0=0:=by
  show Lx.w64 (Lx.w64 (a - Lx.w64 (Lx.quo a 0 * 0)) - Lx.w64 (a * Lx.bit ((0:Int) == 0)))=_
  rw [show Lx.bit ((0:Int) == 0)=1 from rfl,Int.mul_one,Int.mul_zero]
  unfold Lx.w64
  rw [show wrap64 0=0 by unfold wrap64;omega,Int.sub_zero,Int.sub_self]
  unfold wrap64;omega
theorem rem_neg (a:Int) (ha:InI a):Lx.opDo 12 a (-1)=0:=by
  show Lx.w64 (Lx.w64 (a - Lx.w64 (Lx.quo a (-1) * (-1))) - Lx.w64 (a * Lx.bit ((-1:Int) == 0)))=_
  rw [show Lx.bit ((-1:Int) == 0)=0 from rfl,Int.mul_zero]
  unfold Lx.quo Lx.w64
  rw [if_neg (by decide),Int.tdiv_neg,Int.tdiv_one,show wrap64 0=0 by unfold wrap64;omega,Int.sub_zero]
  unfold InI at ha
  unfold wrap64
  omega
theorem quo_neg (a:Int):Lx.opDo 11 a (-1)=wrap64 (-a):=by
  show Lx.quo a (-1)=_
  unfold Lx.quo Lx.w64
  rw [if_neg (by decide),Int.tdiv_neg,Int.tdiv_one]
set_option maxRecDepth 100000 in
theorem comp_quo (a b:Int) (w:World):Calls Tryz.prog 104 #[.string ⟨#[47]⟩,.int .i64 a,.int .i64 b] w fun e w'=>e=.returned (.int .i64 (Lx.opDo 11 a b))∧w=w':=by
  by_cases h0:b=0
  · subst h0
    rw [show Lx.opDo 11 a 0=0 from rfl]
    go_enter Tryz.func104,Tryz.ntmps104
    go_wp2_with fail
    go_ret
    exact ⟨rfl,rfl⟩
  · by_cases h1:b = -1
    · subst h1
      rw [quo_neg]
      go_enter Tryz.func104,Tryz.ntmps104
      go_wp2_with fail
      go_ret
      exact ⟨rfl,rfl⟩
    · rw [show Lx.opDo 11 a b=wrap64 (a.tdiv b) by show Lx.quo a b=_;unfold Lx.quo Lx.w64;rw [if_neg h0]]
      have e0:(b == 0)=false:=beq_eq_false_iff_ne.mpr h0
      have e1:(b == -1)=false:=beq_eq_false_iff_ne.mpr h1
      go_enter Tryz.func104,Tryz.ntmps104
      go_wp2_with fail
      go_ret
      exact ⟨rfl,rfl⟩
set_option maxRecDepth 100000 in
theorem comp_rem (a b:Int) (ha:InI a) (w:World):Calls Tryz.prog 104 #[.string ⟨#[37]⟩,.int .i64 a,.int .i64 b] w fun e w'=>e=.returned (.int .i64 (Lx.opDo 12 a b))∧w=w':=by
  by_cases h0:b=0
  · subst h0
    rw [rem_zero a ha]
    go_enter Tryz.func104,Tryz.ntmps104
    go_wp2_with fail
    go_ret
    exact ⟨rfl,rfl⟩
  · by_cases h1:b = -1
    · subst h1
      rw [rem_neg a ha]
      go_enter Tryz.func104,Tryz.ntmps104
      go_wp2_with fail
      go_ret
      exact ⟨rfl,rfl⟩
    · rw [rem_law a b ha h0 h1]
      have e0:(b == 0)=false:=beq_eq_false_iff_ne.mpr h0
      have e1:(b == -1)=false:=beq_eq_false_iff_ne.mpr h1
      clear ha
      go_enter Tryz.func104,Tryz.ntmps104
      go_wp2_with fail
      go_ret
      exact ⟨rfl,rfl⟩
def Same (T T':Lx.ES) (v v':Int):Prop:=(T.bad=true∧T'.bad=true) ∨ (T.bad=false∧T'=T∧v'=v)
def PostR (w0:World) (A:Option Addr) (n c:Nat) (dv:Value) (L:List Lx.Tok) (w:World) (v:Int) (T:Lx.ES):Ending → World → Prop:=fun e w' =>
  ∃ (v':Int) (T':Lx.ES),e=.returned (.int .i64 v')∧RC w0 w' A n c dv L T'∧w.grownBy w' (some w0.heap.size)∧Same T T' v v'
def UnC (num val:ByteArray → Int × Bool) (w0:World) (A:Option Addr) (n c:Nat) (dv:Value) (L:List Lx.Tok) (m:Nat):Prop:=∀ (S T:Lx.ES) (v:Int) (w:World),Lx.oneF num val m S=some (v,T) → S.bad=false → RC w0 w A n c dv L S →
  Calls Tryz.prog 102 #[.pointer (some ⟨w0.heap.size,0,none⟩)] w (PostR w0 A n c dv L w v T)
def PrC (num val:ByteArray → Int × Bool) (w0:World) (A:Option Addr) (n c:Nat) (dv:Value) (L:List Lx.Tok) (m:Nat):Prop:=∀ (S T:Lx.ES) (v:Int) (w:World),Lx.operF num val m S=some (v,T) → S.bad=false → RC w0 w A n c dv L S →
  Calls Tryz.prog 142 #[.pointer (some ⟨w0.heap.size,0,none⟩)] w (PostR w0 A n c dv L w v T)
def LvC (num val:ByteArray → Int × Bool) (w0:World) (A:Option Addr) (n c:Nat) (dv:Value) (L:List Lx.Tok) (m:Nat):Prop:=∀ (k:Nat) (S T:Lx.ES) (v:Int) (w:World),k ≤ 6 → Lx.binF num val m (k + 1) S=some (v,T) → S.bad=false → RC w0 w A n c dv L S →
  Calls Tryz.prog 87 #[.pointer (some ⟨w0.heap.size,0,none⟩),.int .i64 k] w (PostR w0 A n c dv L w v T)
set_option maxRecDepth 100000 in
set_option maxHeartbeats 4000000 in
theorem unary_step {num val:ByteArray → Int × Bool} {w0:World} {A:Option Addr} {n c:Nat} {dv:Value} {L:List Lx.Tok} (hn5:n ≤ 100000) (m:Nat) (IH:∀ k,k < m → PrC num val w0 A n c dv L k):UnC num val w0 A n c dv L m:=by
  cases m with
  | zero=>intro S T v w hf;unfold Lx.oneF at hf;cases hf
  | succ m =>
  have key:∀ (d:Nat) (S T:Lx.ES) (v:Int) (w:World),S.l.length ≤ d → Lx.oneF num val (m + 1) S=some (v,T) → S.bad=false → RC w0 w A n c dv L S → Calls Tryz.prog 102 #[.pointer (some ⟨w0.heap.size,0,none⟩)] w (PostR w0 A n c dv L w v T):=by
    intro d
    induction d using Nat.strongRecOn with
    | ind d ih =>
      intro S T v w hlen hf hb h
      have hf0:=hf
      unfold Lx.oneF at hf0
      cases ho:Lx.operF num val m ⟨Lx.afterSigns S.l,S.bad⟩ with
      | none=>rw [ho] at hf0;cases hf0
      | some p =>
      obtain ⟨v1,T1⟩:=p
      rw [ho] at hf0
      simp only [Option.some.injEq,Prod.mk.injEq] at hf0
      obtain ⟨hv,rfl⟩:=hf0
      have hv:=hv.symm
      cases h1:Lx.isS S [33]
      · have hr1:=taker_calls w0 w A n c dv L S [33] ⟨#[33]⟩ (by rw [ByteArray.toList_eq]) hn5 h
        rw [show Lx.isR S [33]=false by unfold Lx.isR;rw [hb,h1];rfl] at hr1
        have HN1:=mkA hr1
        clear hr1
        cases h2:Lx.isS S [45]
        · have hr2:=fun W (hW:RC w0 W A n c dv L S)=>taker_calls w0 W A n c dv L S [45] ⟨#[45]⟩ (by rw [ByteArray.toList_eq]) hn5 hW
          rw [show Lx.isR S [45]=false by unfold Lx.isR;rw [hb,h2];rfl] at hr2
          have HN2:=mkA hr2
          clear hr2
          cases h3:Lx.isS S [43]
          · have hr3:=fun W (hW:RC w0 W A n c dv L S)=>taker_calls w0 W A n c dv L S [43] ⟨#[43]⟩ (by rw [ByteArray.toList_eq]) hn5 hW
            rw [show Lx.isR S [43]=false by unfold Lx.isR;rw [hb,h3];rfl] at hr3
            have HN3:=mkA hr3
            clear hr3
            obtain ⟨q1,q2⟩:=Lx.signs_stop S.l S.bad h1 h2 h3
            rw [q2] at ho
            rw [q1] at hv
            have HV:=mkA hv
            have HP:=mkA (fun W (hW:RC w0 W A n c dv L S)=>IH m (Nat.lt_succ_self m) S T1 v1 W ho hb hW)
            have HRC:=mkA h
            clear ih hf ho hv h q1 q2 hlen hb h1 h2 h3
            go_enter Tryz.func102,Tryz.ntmps102
            go_wp2_with (first | (go_at_call 103;(with_reducible refine HN1.out.mono ?_);rintro e wa ⟨rfl,hrc,hg⟩;have hrc:RC w0 wa A n c dv L S:=hrc;have HRa:=mkA hrc;have HGa:=mkA hg;clear hrc hg) | (go_at_call 103;(with_reducible refine (HN2.out wa HRa.out).mono ?_);rintro e wb ⟨rfl,hrc,hg⟩;have hrc:RC w0 wb A n c dv L S:=hrc;have HRb:=mkA hrc;have HGb:=mkA (grown_trans HGa.out hg);clear hrc hg) | (go_at_call 103;(with_reducible refine (HN3.out wb HRb.out).mono ?_);rintro e wc ⟨rfl,hrc,hg⟩;have hrc:RC w0 wc A n c dv L S:=hrc;have HRc:=mkA hrc;have HGc:=mkA (grown_trans HGb.out hg);clear hrc hg) | (go_at_call 142;(refine (HP.out wc HRc.out).mono ?_);rintro e w2 ⟨v',T',rfl,hrc,hg,hsm⟩;have HR2:=mkA hrc;have HG2:=mkA hg;have HSM:=mkA hsm;clear hrc hg hsm))
            go_ret
            refine ⟨_,T',rfl,HR2.out,grown_trans HGc.out HG2.out,?_⟩
            have hv:=HV.out
            rcases HSM.out with ⟨e1,e2⟩ | ⟨e1,e2,e3⟩
            · exact .inl ⟨e1,e2⟩
            · exact .inr ⟨e1,e2,by rw [hv,e3];rfl⟩
          · have hs:=h3
            obtain ⟨t,r,hl,hsg,htt⟩:=Lx.sign_came S.l S.bad [43] (by simp) hs
            have htl:S.tl=⟨r,S.bad⟩:=by unfold Lx.ES.tl;rw [hl];rfl
            obtain ⟨q1,q2⟩:=Lx.signs_cons t r hsg
            have hf2:Lx.oneF num val (m + 1) S.tl=some (Lx.signed (Lx.signsOf r) v1,T1):=by
              rw [htl]
              unfold Lx.oneF
              dsimp only
              rw [← q2,← hl,ho]
            have hlen2:S.tl.l.length < d:=by rw [htl];dsimp only;rw [hl] at hlen;simp only [List.length_cons] at hlen;omega
            obtain ⟨v0,hv0⟩:∃ v0,Lx.signed (Lx.signsOf r) v1=v0:=⟨_,rfl⟩
            rw [hv0] at hf2
            have hvv:v=Lx.signed1 t.t v0:=by rw [hv,hl,q1,← hv0];rfl
            unfold Lx.signed1 at hvv
            rw [htt] at hvv
            have HVV:=mkA hvv
            have HRC:=mkA h
            have ht1:=fun W (hW:RC w0 W A n c dv L S)=>taker_calls w0 W A n c dv L S [43] ⟨#[43]⟩ (by rw [ByteArray.toList_eq]) hn5 hW
            have HIH:=mkA (fun W (hW:RC w0 W A n c dv L S.tl)=>ih _ hlen2 S.tl T1 v0 W (Nat.le_refl _) hf2 (by rw [htl];exact hb) hW)
            rw [show Lx.isR S [43]=true by unfold Lx.isR;rw [hb,hs];rfl] at ht1
            have HT1:=mkA ht1
            clear ht1
            clear ih hf ho hv h hl hsg htt htl q1 q2 hf2 hlen hlen2 hv0 hvv hs hb
            go_enter Tryz.func102,Tryz.ntmps102
            go_wp2_with (first | (go_at_call 103;(with_reducible refine HN1.out.mono ?_);rintro e wa ⟨rfl,hrc,hg⟩;have hrc:RC w0 wa A n c dv L S:=hrc;have HRa:=mkA hrc;have HGa:=mkA hg;clear hrc hg) | (go_at_call 103;(with_reducible refine (HN2.out wa HRa.out).mono ?_);rintro e wb ⟨rfl,hrc,hg⟩;have hrc:RC w0 wb A n c dv L S:=hrc;have HRb:=mkA hrc;have HGb:=mkA (grown_trans HGa.out hg);clear hrc hg) | (go_at_call 103;(with_reducible refine (HT1.out _ HRb.out).mono ?_);rintro e w1 ⟨rfl,hrc,hg⟩;have hrc:RC w0 w1 A n c dv L S.tl:=hrc;have HR1:=mkA hrc;have HG1:=mkA hg;clear hrc hg) | (go_at_call 102;(refine (HIH.out w1 HR1.out).mono ?_);rintro e w2 ⟨v',T',rfl,hrc,hg,hsm⟩;have HR2:=mkA hrc;have HG2:=mkA hg;have HSM:=mkA hsm;clear hrc hg hsm) | (go_at_call 141;(refine (oner_calls _ _).mono ?_);rintro e w' ⟨rfl,rfl⟩))
            go_ret
            refine ⟨_,T',rfl,HR2.out,grown_trans (grown_trans HGb.out HG1.out) HG2.out,?_⟩
            rcases HSM.out with ⟨e1,e2⟩ | ⟨e1,e2,e3⟩
            · exact .inl ⟨e1,e2⟩
            · exact .inr ⟨e1,e2,by rw [HVV.out,e3];rfl⟩
        · have hs:=h2
          obtain ⟨t,r,hl,hsg,htt⟩:=Lx.sign_came S.l S.bad [45] (by simp) hs
          have htl:S.tl=⟨r,S.bad⟩:=by unfold Lx.ES.tl;rw [hl];rfl
          obtain ⟨q1,q2⟩:=Lx.signs_cons t r hsg
          have hf2:Lx.oneF num val (m + 1) S.tl=some (Lx.signed (Lx.signsOf r) v1,T1):=by
            rw [htl]
            unfold Lx.oneF
            dsimp only
            rw [← q2,← hl,ho]
          have hlen2:S.tl.l.length < d:=by rw [htl];dsimp only;rw [hl] at hlen;simp only [List.length_cons] at hlen;omega
          obtain ⟨v0,hv0⟩:∃ v0,Lx.signed (Lx.signsOf r) v1=v0:=⟨_,rfl⟩
          rw [hv0] at hf2
          have hvv:v=Lx.signed1 t.t v0:=by rw [hv,hl,q1,← hv0];rfl
          unfold Lx.signed1 at hvv
          rw [htt] at hvv
          have HVV:=mkA hvv
          have HRC:=mkA h
          have ht1:=fun W (hW:RC w0 W A n c dv L S)=>taker_calls w0 W A n c dv L S [45] ⟨#[45]⟩ (by rw [ByteArray.toList_eq]) hn5 hW
          have HIH:=mkA (fun W (hW:RC w0 W A n c dv L S.tl)=>ih _ hlen2 S.tl T1 v0 W (Nat.le_refl _) hf2 (by rw [htl];exact hb) hW)
          rw [show Lx.isR S [45]=true by unfold Lx.isR;rw [hb,hs];rfl] at ht1
          have HT1:=mkA ht1
          clear ht1
          clear ih hf ho hv h hl hsg htt htl q1 q2 hf2 hlen hlen2 hv0 hvv hs hb
          go_enter Tryz.func102,Tryz.ntmps102
          go_wp2_with (first | (go_at_call 103;(with_reducible refine HN1.out.mono ?_);rintro e wa ⟨rfl,hrc,hg⟩;have hrc:RC w0 wa A n c dv L S:=hrc;have HRa:=mkA hrc;have HGa:=mkA hg;clear hrc hg) | (go_at_call 103;(with_reducible refine (HT1.out _ HRa.out).mono ?_);rintro e w1 ⟨rfl,hrc,hg⟩;have hrc:RC w0 w1 A n c dv L S.tl:=hrc;have HR1:=mkA hrc;have HG1:=mkA hg;clear hrc hg) | (go_at_call 102;(refine (HIH.out w1 HR1.out).mono ?_);rintro e w2 ⟨v',T',rfl,hrc,hg,hsm⟩;have HR2:=mkA hrc;have HG2:=mkA hg;have HSM:=mkA hsm;clear hrc hg hsm) | (go_at_call 141;(refine (oner_calls _ _).mono ?_);rintro e w' ⟨rfl,rfl⟩))
          go_ret
          refine ⟨_,T',rfl,HR2.out,grown_trans (grown_trans HGa.out HG1.out) HG2.out,?_⟩
          rcases HSM.out with ⟨e1,e2⟩ | ⟨e1,e2,e3⟩
          · exact .inl ⟨e1,e2⟩
          · exact .inr ⟨e1,e2,by rw [HVV.out,e3];rfl⟩
      · have hs:=h1
        obtain ⟨t,r,hl,hsg,htt⟩:=Lx.sign_came S.l S.bad [33] (by simp) hs
        have htl:S.tl=⟨r,S.bad⟩:=by unfold Lx.ES.tl;rw [hl];rfl
        obtain ⟨q1,q2⟩:=Lx.signs_cons t r hsg
        have hf2:Lx.oneF num val (m + 1) S.tl=some (Lx.signed (Lx.signsOf r) v1,T1):=by
          rw [htl]
          unfold Lx.oneF
          dsimp only
          rw [← q2,← hl,ho]
        have hlen2:S.tl.l.length < d:=by rw [htl];dsimp only;rw [hl] at hlen;simp only [List.length_cons] at hlen;omega
        obtain ⟨v0,hv0⟩:∃ v0,Lx.signed (Lx.signsOf r) v1=v0:=⟨_,rfl⟩
        rw [hv0] at hf2
        have hvv:v=Lx.signed1 t.t v0:=by rw [hv,hl,q1,← hv0];rfl
        unfold Lx.signed1 at hvv
        rw [htt] at hvv
        have HVV:=mkA hvv
        have HRC:=mkA h
        have ht1:=fun W (hW:RC w0 W A n c dv L S)=>taker_calls w0 W A n c dv L S [33] ⟨#[33]⟩ (by rw [ByteArray.toList_eq]) hn5 hW
        have HIH:=mkA (fun W (hW:RC w0 W A n c dv L S.tl)=>ih _ hlen2 S.tl T1 v0 W (Nat.le_refl _) hf2 (by rw [htl];exact hb) hW)
        rw [show Lx.isR S [33]=true by unfold Lx.isR;rw [hb,hs];rfl] at ht1
        have HT1:=mkA ht1
        clear ht1
        clear ih hf ho hv h hl hsg htt htl q1 q2 hf2 hlen hlen2 hv0 hvv hs hb
        go_enter Tryz.func102,Tryz.ntmps102
        go_wp2_with (first |  (go_at_call 103;(with_reducible refine (HT1.out _ HRC.out).mono ?_);rintro e w1 ⟨rfl,hrc,hg⟩;have hrc:RC w0 w1 A n c dv L S.tl:=hrc;have HR1:=mkA hrc;have HG1:=mkA hg;clear hrc hg) | (go_at_call 102;(refine (HIH.out w1 HR1.out).mono ?_);rintro e w2 ⟨v',T',rfl,hrc,hg,hsm⟩;have HR2:=mkA hrc;have HG2:=mkA hg;have HSM:=mkA hsm;clear hrc hg hsm) | (go_at_call 141;(refine (oner_calls _ _).mono ?_);rintro e w' ⟨rfl,rfl⟩))
        go_ret
        refine ⟨_,T',rfl,HR2.out,grown_trans (HG1.out) HG2.out,?_⟩
        rcases HSM.out with ⟨e1,e2⟩ | ⟨e1,e2,e3⟩
        · exact .inl ⟨e1,e2⟩
        · exact .inr ⟨e1,e2,by rw [HVV.out,e3];rfl⟩
  exact fun S T v w hf hb h=>key S.l.length S T v w (Nat.le_refl _) hf hb h
structure EnvR (num val:ByteArray → Int × Bool) (P:Lx.Tok → Prop) (w0:World) (A:Option Addr) (n c:Nat) (dv:Value) (L:List Lx.Tok):Prop where
  num:∀ t,P t → t.k=3 → ∀ w,Below w0.heap.size w0 w → Calls Tryz.prog 169 #[.string t.t] w fun e w' => ∃ v',e=.returned (.tuple #[.int .i64 v',.bool (num t.t).2])∧((num t.t).2=true → v'=(num t.t).1)∧w'=w
  val:∀ (b:ByteArray) (S:Lx.ES) w,RC w0 w A n c dv L S → Calls Tryz.prog 92 #[.pointer (some ⟨w0.heap.size,0,none⟩),.string b] w fun e w'=>e=.returned (.tuple #[.int .i64 (val b).1,.bool (val b).2])∧w'=w
  word:∀ t ∈ L,P t
  name:∀ t,P t → t.t.toList=[100,101,102,105,110,101,100] → t.k=1
theorem RC.fail {w0 w w1:World} {A:Option Addr} {n c:Nat} {dv:Value} {L:List Lx.Tok} {S:Lx.ES} {i:Nat} (h:RC w0 w A n c dv L S) (hi:i ≤ n) (hd:S.l=L.drop i) (hb:w1.heap[w0.heap.size]? = some (.cells #[.slice A n c,.int .i64 i,.bool true,dv] 124 (0,0))) (hw:Below w0.heap.size w0 w1):RC w0 w1 A n c dv L S.fail :=
  ⟨h.1,i,hi,hd,hb,hw⟩
theorem paren_yes {T1 T1' T:Lx.ES} {v1 v' v:Int} (hs:Same T1 T1' v1 v') (hb:Lx.isR T1' [41]=true) (hf:(if Lx.isS T1 [41]=true then some (v1,T1.tl) else some (0,T1.fail))=some (v,T)):Same T T1'.tl v v':=by
  unfold Lx.isR at hb
  rw [Bool.and_eq_true] at hb
  rcases hs with ⟨-,e2⟩ | ⟨e1,rfl,rfl⟩
  · rw [e2] at hb;cases hb.1
  · rw [if_pos hb.2] at hf
    cases hf
    exact .inr ⟨e1,rfl,rfl⟩
theorem paren_no {T1 T1' T:Lx.ES} {v1 v' v v2:Int} (hs:Same T1 T1' v1 v') (hb:Lx.isR T1' [41]=false) (hf:(if Lx.isS T1 [41]=true then some (v1,T1.tl) else some (0,T1.fail))=some (v,T)):Same T T1'.fail v v2:=by
  refine .inl ⟨?_,rfl⟩
  unfold Lx.isR at hb
  rcases hs with ⟨e1,-⟩ | ⟨e1,rfl,rfl⟩
  · split at hf <;> cases hf
    · exact e1
    · rfl
  · rw [e1,Bool.not_false,Bool.true_and] at hb
    rw [hb] at hf
    cases hf
    rfl
theorem nil_at {i n:Nat} {L:List Lx.Tok} (hl:L.length=n) (hi:i ≤ n) (h:L.drop i=[]):i=n:=by
  have:=congrArg List.length h
  simp at this
  omega
theorem defined_bad {val:ByteArray → Int × Bool} {S U T:Lx.ES} {v:Int} {p:Bool} (h:Lx.definedE val S=(v,T)) (hp:Lx.isS S [40]=p) (hU:(if p=true then S.tl else S)=U) (hc:U.l=[] ∨ ∃ t r,U.l=t :: r∧t.k ≠ 1):T.bad=true:=by
  unfold Lx.definedE at h
  rw [hp,hU] at h
  dsimp only at h
  rcases hc with e | ⟨t,r,e,k⟩
  · rw [e] at h
    cases h;rfl
  · rw [e] at h
    dsimp only at h
    rw [if_neg k] at h
    cases h;rfl
theorem defined_val {val:ByteArray → Int × Bool} {S U T:Lx.ES} {v:Int} {p q:Bool} {t:Lx.Tok} {r:List Lx.Tok} (h:Lx.definedE val S=(v,T)) (hp:Lx.isS S [40]=p) (hU:(if p=true then S.tl else S)=U) (hl:U.l=t :: r) (hk:t.k=1) (hb:U.bad=false) (hq:Lx.isR U.tl [41]=q) :
    (p=false → T=U.tl∧v=Lx.bit (val t.t).2)∧(p=true → q=true → T=U.tl.tl∧v=Lx.bit (val t.t).2)∧(p=true → q=false → T.bad=true):=by
  have e:U.tl=⟨r,U.bad⟩:=by unfold Lx.ES.tl;rw [hl];rfl
  unfold Lx.isR at hq
  rw [e] at hq
  rw [hb] at hq e
  have hq:Lx.isS ⟨r,false⟩ [41]=q:=by rw [← hq];rfl
  unfold Lx.definedE at h
  rw [hp,hU] at h
  dsimp only at h
  rw [hl] at h
  dsimp only at h
  rw [if_pos hk,hb,hq] at h
  rw [e]
  cases p <;> cases q <;> simp [Lx.ES.tl] at h ⊢ <;> (obtain ⟨rfl,rfl⟩:=h) <;> simp
theorem RC.mk {w0 w w1:World} {A:Option Addr} {n c:Nat} {dv:Value} {L:List Lx.Tok} {S S':Lx.ES} {i:Nat} (h:RC w0 w A n c dv L S) (hi:i ≤ n) (hd:S'.l=L.drop i) (hb:w1.heap[w0.heap.size]? = some (.cells #[.slice A n c,.int .i64 i,.bool S'.bad,dv] 124 (0,0))) (hw:Below w0.heap.size w0 w1):RC w0 w1 A n c dv L S' :=
  ⟨h.1,i,hi,hd,hb,hw⟩
theorem tl_drop {S:Lx.ES} {L:List Lx.Tok} {i:Nat} (h:S.l=L.drop i):S.tl.l=L.drop (i + 1):=by
  unfold Lx.ES.tl
  rw [h]
  simp
set_option maxRecDepth 100000 in
set_option maxHeartbeats 8000000 in
theorem primary_step {num val:ByteArray → Int × Bool} {P:Lx.Tok → Prop} {w0:World} {A:Option Addr} {n c:Nat} {dv:Value} {L:List Lx.Tok} (hn5:n ≤ 100000) (hE:EnvR num val P w0 A n c dv L) (m:Nat) (IH:∀ k,k < m → LvC num val w0 A n c dv L k):PrC num val w0 A n c dv L m:=by
  intro S T v w hf hb h
  cases m with
  | zero=>unfold Lx.operF at hf;cases hf
  | succ m =>
  have hnl:=h.len
  unfold Lx.operF at hf
  rw [if_neg (by rw [hb];simp)] at hf
  have HR:=mkA h
  have HE:=mkA hE
  cases hl:S.l with
  | nil =>
    rw [hl] at hf
    cases hf
    obtain ⟨-,i,hi,hd,hbk,hw⟩:=h
    have hin:i=n:=by
      rw [hl] at hd
      have:=congrArg List.length hd
      simp at this
      omega
    subst hin
    rw [hb] at hbk
    have hxl:=blk_lt hbk
    have y0:w.cell? ⟨w0.heap.size,0,none⟩=some (.slice A i c):=by rw [blk_cell hbk];rfl
    have y1:w.cell? ⟨w0.heap.size,1,none⟩=some (.int .i64 i):=by rw [blk_cell hbk];rfl
    have y2:w.cell? ⟨w0.heap.size,2,none⟩=some (.bool false):=by rw [blk_cell hbk];rfl
    have yf:=blk_frozen hbk 2
    have HBK:=mkA hbk
    have HD:=mkA hd
    have HW:=mkA hw
    clear hbk hw hd hb hl hE hnl IH
    go_enter Tryz.func142,Tryz.ntmps142
    go_wp2_with fail
    go_quiet (fail)
    go_wp2_with fail
    go_ret
    have hgd:w.grownBy (w.drewN nq) none:=grown_drewN (World.grownBy.refl _ _) _
    have hb2:=blk_set ((hgd.block _ (blk_lt HBK.out) (by simp)).trans HBK.out) 2 (.bool true)
    refine ⟨_,S.fail,rfl,HR.out.fail (Nat.le_refl _) HD.out hb2 ((HW.out.grown hgd (by have:=blk_lt HBK.out;omega) (fun k hk=>by cases hk)).setCell (p:=⟨w0.heap.size,2,none⟩) (Nat.le_refl _) _),grown_set (grown_any hgd) _ _,.inl ⟨rfl,rfl⟩⟩
  | cons t r =>
    rw [hl] at hf
    dsimp only at hf
    obtain ⟨g,o,i,rfl,hi,hd,hrd,hbk,hw,hgl,a0,a1,a2,a3⟩:=h.at hl
    rw [hb] at hbk
    have hxl:=blk_lt hbk
    have hgw:g < w.heap.size:=Nat.lt_of_lt_of_le hgl hw.size
    have y0:w.cell? ⟨w0.heap.size,0,none⟩=some (.slice (some ⟨g,o,none⟩) n c):=by rw [blk_cell hbk];rfl
    have y1:w.cell? ⟨w0.heap.size,1,none⟩=some (.int .i64 i):=by rw [blk_cell hbk];rfl
    have y2:w.cell? ⟨w0.heap.size,2,none⟩=some (.bool false):=by rw [blk_cell hbk];rfl
    have hi0:(0:Int) ≤ (i:Int):=Int.natCast_nonneg _
    have hin:(i:Int) < (n:Int):=by omega
    have hd1:decide ((n:Int) ≤ (i:Int))=false:=decide_eq_false (by omega)
    have HBK:=mkA hbk
    have HD:=mkA hd
    have HW:=mkA hw
    have HF:=mkA hf
    have HL:=mkA hl
    have HB:=mkA hb
    clear hbk hw hd hf hl hE hnl hgl hb
    go_enter Tryz.func142,Tryz.ntmps142
    go_wp2_with fail
    go_quiet (fail)
    go_wp2_with fail
    obtain ⟨w1,hw1⟩:∃ w1,w.drewN nq=w1:=⟨_,rfl⟩
    rw [hw1]
    have hg1:w.grownBy w1 none:=hw1 ▸ grown_drewN (World.grownBy.refl _ _) _
    have y0:=hg1.cell y0 (by simp)
    have y1:=hg1.cell y1 (by simp)
    have y2:=hg1.cell y2 (by simp)
    have a0:=hg1.cell a0 (by simp)
    have a1:=hg1.cell a1 (by simp)
    have a2:=hg1.cell a2 (by simp)
    have a3:=hg1.cell a3 (by simp)
    have hxl1:w0.heap.size < w1.heap.size:=Nat.lt_of_lt_of_le hxl hg1.size
    have hgw1:g < w1.heap.size:=Nat.lt_of_lt_of_le hgw hg1.size
    have HG1:=mkA hg1
    clear hw1 hg1 hxl hgw
    have hn0:(w1.alloc (.cells #[.int .i64 t.k,.string t.b,.string t.t,.int .i64 t.a] 29)).drew.cell? ⟨w1.heap.size,0,none⟩=some (.int .i64 t.k):=(by rw [blk_cell (blk_new w1 _)];rfl:(w1.alloc (.cells #[.int .i64 t.k,.string t.b,.string t.t,.int .i64 t.a] 29)).cell? ⟨w1.heap.size,0,none⟩=some (.int .i64 t.k))
    have hn2:(w1.alloc (.cells #[.int .i64 t.k,.string t.b,.string t.t,.int .i64 t.a] 29)).drew.cell? ⟨w1.heap.size,2,none⟩=some (.string t.t):=(by rw [blk_cell (blk_new w1 _)];rfl:(w1.alloc (.cells #[.int .i64 t.k,.string t.b,.string t.t,.int .i64 t.a] 29)).cell? ⟨w1.heap.size,2,none⟩=some (.string t.t))
    have hg2:w.grownBy (w1.alloc (.cells #[.int .i64 t.k,.string t.b,.string t.t,.int .i64 t.a] 29)).drew none:=grown_drew (grown_trans HG1.out (World.grownBy_alloc _ _ _))
    have hN2:w1.heap.size < (w1.alloc (.cells #[.int .i64 t.k,.string t.b,.string t.t,.int .i64 t.a] 29)).drew.heap.size:=by show _ < (w1.alloc _).heap.size;simp
    go_region
    obtain ⟨w2,hw2⟩:∃ w2,(w1.alloc (.cells #[.int .i64 t.k,.string t.b,.string t.t,.int .i64 t.a] 29)).drew=w2:=⟨_,rfl⟩
    rw [hw2] at hn0 hn2 hg2 hN2 ⊢
    obtain ⟨nb,hnb⟩:∃ nb,w1.heap.size=nb:=⟨_,rfl⟩
    rw [hnb] at hn0 hn2 hN2 hxl1 ⊢
    have HG2:=mkA hg2
    have HR2:=mkA (HR.out.grown hg2)
    clear hw2 hg2 hnb y0 y1 y2 a0 a1 a2 a3 hgw1 hd1
    have hxn:w0.heap.size ≠ nb:=by omega
    have ht40:=fun (S':Lx.ES) W (hW:RC w0 W (some ⟨g,o,none⟩) n c dv L S')=>taker_calls w0 W (some ⟨g,o,none⟩) n c dv L S' [40] ⟨#[40]⟩ (by rw [ByteArray.toList_eq]) hn5 hW
    have ht41:=fun (S':Lx.ES) W (hW:RC w0 W (some ⟨g,o,none⟩) n c dv L S')=>taker_calls w0 W (some ⟨g,o,none⟩) n c dv L S' [41] ⟨#[41]⟩ (by rw [ByteArray.toList_eq]) hn5 hW
    have HT40:=mkA ht40
    have HT41:=mkA ht41
    have hs40:=ht40 S w2 HR2.out
    rw [show Lx.isR S [40]=Lx.isS S [40] by unfold Lx.isR;rw [HB.out];rfl] at hs40
    clear ht40 ht41
    have hf:=HF.out
    clear HF
    cases hpa:Lx.isS S [40]
    · rw [if_neg (by rw [hpa];simp)] at hf
      rw [hpa] at hs40
      have HS40:=mkA hs40
      have HN0:=mkA hn0
      have HN2:=mkA hn2
      have hPt:P t:=HE.out.word t (by
        have:t ∈ L.drop i:=by rw [← HD.out,HL.out];exact List.mem_cons_self ..
        exact List.mem_of_mem_drop this)
      clear hs40 hn0 hn2 IH HR2 a0 a1 a2 a3 y0 y1 y2 hin hi0 hrd
      have hbt:S.tl.bad=false:=HB.out
      have HBT:=mkA hbt
      clear hbt
      cases h3:(t.k == 3)
      · rw [if_neg (beq_eq_false_iff_ne.mp h3)] at hf
        cases hdf:(t.t.toList == [100,101,102,105,110,101,100])
        · rw [hdf,if_neg Bool.false_ne_true] at hf
          cases h1:(t.k == 1)
          · rw [if_neg (beq_eq_false_iff_ne.mp h1)] at hf
            cases hf
            clear HE
            go_wp2_with (first | (go_at_call 103;(with_reducible refine HS40.out.mono ?_);rintro e w3 ⟨rfl,hrc,hg⟩;have hrc:RC w0 w3 (some ⟨g,o,none⟩) n c dv L S:=hrc;have HR3:=mkA hrc;obtain ⟨g3,o3,i3,hA3,hi3,hd3,hrd3,hbk3,hw3,-⟩:=hrc.at HL.out;cases hA3;rw [HB.out] at hbk3;have hxl3:=blk_lt hbk3;have z1:w3.cell? ⟨w0.heap.size,1,none⟩=some (.int .i64 i3):=(by rw [blk_cell hbk3];rfl);have z2:w3.cell? ⟨w0.heap.size,2,none⟩=some (.bool false):=(by rw [blk_cell hbk3];rfl);have zf1:=blk_frozen hbk3 1;have zf2:=blk_frozen hbk3 2;have hm0:=hg.cell HN0.out (by simpa using hxn.symm);have hm2:=hg.cell HN2.out (by simpa using hxn.symm);have hi30:(0:Int) ≤ (i3:Int):=Int.natCast_nonneg _;have hi3n:(i3:Int) < (n:Int):=(by omega);have HG3:=mkA (grown_trans (grown_any HG2.out) hg);have HBK3:=mkA hbk3;have HW3:=mkA hw3;have HD3:=mkA hd3;clear hrc hg hbk3 hw3 hd3 hrd3))
            go_ret
            exact ⟨_,S.fail,rfl,HR3.out.mk (i:=i3) (Nat.le_of_lt hi3) HD3.out (blk_set HBK3.out 2 (.bool true)) (HW3.out.setCell (p:=⟨w0.heap.size,2,none⟩) (Nat.le_refl _) _),grown_set HG3.out _ _,.inl ⟨rfl,rfl⟩⟩
          · rw [if_pos (beq_iff_eq.mp h1)] at hf
            cases hf
            have HVAL:=mkA (fun W hW=>HE.out.val t.t S.tl W hW)
            obtain ⟨v1,hv1⟩:∃ v1,(val t.t).1=v1:=⟨_,rfl⟩
            rw [hv1] at HVAL
            have HV1:=mkA hv1
            clear HE hv1
            go_wp2_with (first | (go_at_call 103;(with_reducible refine HS40.out.mono ?_);rintro e w3 ⟨rfl,hrc,hg⟩;have hrc:RC w0 w3 (some ⟨g,o,none⟩) n c dv L S:=hrc;have HR3:=mkA hrc;obtain ⟨g3,o3,i3,hA3,hi3,hd3,hrd3,hbk3,hw3,-⟩:=hrc.at HL.out;cases hA3;rw [HB.out] at hbk3;have hxl3:=blk_lt hbk3;have z1:w3.cell? ⟨w0.heap.size,1,none⟩=some (.int .i64 i3):=(by rw [blk_cell hbk3];rfl);have z2:w3.cell? ⟨w0.heap.size,2,none⟩=some (.bool false):=(by rw [blk_cell hbk3];rfl);have zf1:=blk_frozen hbk3 1;have zf2:=blk_frozen hbk3 2;have hm0:=hg.cell HN0.out (by simpa using hxn.symm);have hm2:=hg.cell HN2.out (by simpa using hxn.symm);have hi30:(0:Int) ≤ (i3:Int):=Int.natCast_nonneg _;have hi3n:(i3:Int) < (n:Int):=(by omega);have HG3:=mkA (grown_trans (grown_any HG2.out) hg);have HBK3:=mkA hbk3;have HW3:=mkA hw3;have HD3:=mkA hd3;clear hrc hg hbk3 hw3 hd3 hrd3) | ((have hb4:=blk_set HBK3.out 1 (.int .i64 (i3 + 1:Nat));have hr4:RC w0 (w3.setCell ⟨w0.heap.size,1,none⟩ (.int .i64 ((i3:Int) + 1))) (some ⟨g,o,none⟩) n c dv L S.tl:=HR3.out.mk (i:=i3 + 1) hi3 (tl_drop HD3.out) (by rw [show S.tl.bad=false from HB.out];exact hb4) (HW3.out.setCell (p:=⟨w0.heap.size,1,none⟩) (Nat.le_refl _) _));(go_at_call 92;(with_reducible refine (HVAL.out _ hr4).mono ?_);rintro e w4 ⟨rfl,rfl⟩)))
            go_ret
            (have hb4:=blk_set HBK3.out 1 (.int .i64 (i3 + 1:Nat));have hr4:RC w0 (w3.setCell ⟨w0.heap.size,1,none⟩ (.int .i64 ((i3:Int) + 1))) (some ⟨g,o,none⟩) n c dv L S.tl:=HR3.out.mk (i:=i3 + 1) hi3 (tl_drop HD3.out) (by rw [show S.tl.bad=false from HB.out];exact hb4) (HW3.out.setCell (p:=⟨w0.heap.size,1,none⟩) (Nat.le_refl _) _))
            exact ⟨_,S.tl,rfl,hr4,grown_set HG3.out _ _,.inr ⟨HBT.out,rfl,HV1.out.symm⟩⟩
        · rw [hdf,if_pos rfl] at hf
          have h1:(t.k == 1)=true:=beq_iff_eq.mpr (HE.out.name t hPt (eq_of_beq hdf))
          have HDE:=mkA (Option.some.inj hf)
          obtain ⟨p,hp⟩:∃ p,Lx.isR S.tl [40]=p:=⟨_,rfl⟩
          obtain ⟨U,hU⟩:∃ U,(if p=true then S.tl.tl else S.tl)=U:=⟨_,rfl⟩
          have hps:Lx.isS S.tl [40]=p:=by rw [← hp];unfold Lx.isR;rw [HBT.out];rfl
          have hub:U.bad=false:=by rw [← hU];cases p <;> exact HBT.out
          have HT:=mkA (fun W hW=>HT40.out S.tl W hW)
          rw [hp,hU] at HT
          have HPS:=mkA hps
          have HU:=mkA hU
          have HUB:=mkA hub
          clear hp hps hU hub hf HT40
          cases hul:U.l with
          | nil =>
            have HUL:=mkA hul
            clear HE hul
            go_wp2_with (first | (go_at_call 103;(with_reducible refine HS40.out.mono ?_);rintro e w3 ⟨rfl,hrc,hg⟩;have hrc:RC w0 w3 (some ⟨g,o,none⟩) n c dv L S:=hrc;have HR3:=mkA hrc;obtain ⟨g3,o3,i3,hA3,hi3,hd3,hrd3,hbk3,hw3,-⟩:=hrc.at HL.out;cases hA3;rw [HB.out] at hbk3;have hxl3:=blk_lt hbk3;have z1:w3.cell? ⟨w0.heap.size,1,none⟩=some (.int .i64 i3):=(by rw [blk_cell hbk3];rfl);have z2:w3.cell? ⟨w0.heap.size,2,none⟩=some (.bool false):=(by rw [blk_cell hbk3];rfl);have zf1:=blk_frozen hbk3 1;have zf2:=blk_frozen hbk3 2;have hm0:=hg.cell HN0.out (by simpa using hxn.symm);have hm2:=hg.cell HN2.out (by simpa using hxn.symm);have hi30:(0:Int) ≤ (i3:Int):=Int.natCast_nonneg _;have hi3n:(i3:Int) < (n:Int):=(by omega);have HG3:=mkA (grown_trans (grown_any HG2.out) hg);have HBK3:=mkA hbk3;have HW3:=mkA hw3;have HD3:=mkA hd3;clear hrc hg hbk3 hw3 hd3 hrd3) | ((have hb4:=blk_set HBK3.out 1 (.int .i64 (i3 + 1:Nat));have hr4:RC w0 (w3.setCell ⟨w0.heap.size,1,none⟩ (.int .i64 ((i3:Int) + 1))) (some ⟨g,o,none⟩) n c dv L S.tl:=HR3.out.mk (i:=i3 + 1) hi3 (tl_drop HD3.out) (by rw [show S.tl.bad=false from HB.out];exact hb4) (HW3.out.setCell (p:=⟨w0.heap.size,1,none⟩) (Nat.le_refl _) _));(go_at_call 103;(with_reducible refine (HT.out _ hr4).mono ?_);rintro e w4 ⟨rfl,hrc,hg⟩;have HR4:=mkA hrc;obtain ⟨-,i4,hi4,hd4,hbk4,hw4⟩:=hrc;have HN4:=mkA (nil_at HR4.out.len hi4 (hd4.symm.trans HUL.out));have hd1:decide ((n:Int) ≤ (i4:Int))=true:=decide_eq_true (by have:=HN4.out;omega);have hd2:decide (n ≤ i4)=true:=decide_eq_true (by have:=HN4.out;omega);have hd3:n ≤ i4:=(by have:=HN4.out;omega);rw [HUB.out] at hbk4;have y0:w4.cell? ⟨w0.heap.size,0,none⟩=some (.slice (some ⟨g,o,none⟩) n c):=(by rw [blk_cell hbk4];rfl);have y1:w4.cell? ⟨w0.heap.size,1,none⟩=some (.int .i64 i4):=(by rw [blk_cell hbk4];rfl);have y2:w4.cell? ⟨w0.heap.size,2,none⟩=some (.bool false):=(by rw [blk_cell hbk4];rfl);have yf1:=blk_frozen hbk4 1;have yf2:=blk_frozen hbk4 2;have hxl4:=blk_lt hbk4;have hi40:(0:Int) ≤ (i4:Int):=Int.natCast_nonneg _;have HBK4:=mkA hbk4;have HW4:=mkA hw4;have HD4:=mkA hd4;have HG4:=mkA (grown_trans (grown_set HG3.out 1 (.int .i64 ((i3:Int) + 1))) hg);clear hrc hg hbk4 hw4 hd4 hr4 hb4)))
            go_quiet (fail)
            go_wp2_with fail
            go_ret
            have hgd:=fun nq=>grown_drewN (World.grownBy.refl w4 none) nq
            refine ⟨_,U.fail,rfl,HR4.out.mk (i:=i4) (by omega) HD4.out (blk_set (((hgd _).block _ (blk_lt HBK4.out) (by simp)).trans HBK4.out) 2 (.bool true)) ((HW4.out.grown (hgd _) (by have:=blk_lt HBK4.out;omega) (fun k hk=>by cases hk)).setCell (p:=⟨w0.heap.size,2,none⟩) (Nat.le_refl _) _),grown_set (grown_trans HG4.out (grown_any (hgd _))) _ _,?_⟩
            exact .inl ⟨defined_bad HDE.out HPS.out HU.out (.inl HUL.out),rfl⟩
          | cons t2 r2 =>
            have HUL:=mkA hul
            clear hul
            cases hk2:(t2.k == 1)
            · have HK2:=mkA hk2
              clear HE
              go_wp2_with (first | (go_at_call 103;(with_reducible refine HS40.out.mono ?_);rintro e w3 ⟨rfl,hrc,hg⟩;have hrc:RC w0 w3 (some ⟨g,o,none⟩) n c dv L S:=hrc;have HR3:=mkA hrc;obtain ⟨g3,o3,i3,hA3,hi3,hd3,hrd3,hbk3,hw3,-⟩:=hrc.at HL.out;cases hA3;rw [HB.out] at hbk3;have hxl3:=blk_lt hbk3;have z1:w3.cell? ⟨w0.heap.size,1,none⟩=some (.int .i64 i3):=(by rw [blk_cell hbk3];rfl);have z2:w3.cell? ⟨w0.heap.size,2,none⟩=some (.bool false):=(by rw [blk_cell hbk3];rfl);have zf1:=blk_frozen hbk3 1;have zf2:=blk_frozen hbk3 2;have hm0:=hg.cell HN0.out (by simpa using hxn.symm);have hm2:=hg.cell HN2.out (by simpa using hxn.symm);have hi30:(0:Int) ≤ (i3:Int):=Int.natCast_nonneg _;have hi3n:(i3:Int) < (n:Int):=(by omega);have HG3:=mkA (grown_trans (grown_any HG2.out) hg);have HBK3:=mkA hbk3;have HW3:=mkA hw3;have HD3:=mkA hd3;clear hrc hg hbk3 hw3 hd3 hrd3) | ((have hb4:=blk_set HBK3.out 1 (.int .i64 (i3 + 1:Nat));have hr4:RC w0 (w3.setCell ⟨w0.heap.size,1,none⟩ (.int .i64 ((i3:Int) + 1))) (some ⟨g,o,none⟩) n c dv L S.tl:=HR3.out.mk (i:=i3 + 1) hi3 (tl_drop HD3.out) (by rw [show S.tl.bad=false from HB.out];exact hb4) (HW3.out.setCell (p:=⟨w0.heap.size,1,none⟩) (Nat.le_refl _) _));(go_at_call 103;(with_reducible refine (HT.out _ hr4).mono ?_);rintro e w4 ⟨rfl,hrc,hg⟩;have HR4:=mkA hrc;obtain ⟨g4,o4,i4,hA4,hi4,hd4,hrd4,hbk4,hw4,-,a0,a1,a2,a3⟩:=hrc.at HUL.out;cases hA4;rw [HUB.out] at hbk4;have hi4n:(i4:Int) < (n:Int):=(by omega);have hd1:decide ((n:Int) ≤ (i4:Int))=false:=decide_eq_false (by omega);have hd2:decide (n ≤ i4)=false:=decide_eq_false (by omega);have hd3:¬ n ≤ i4:=(by omega);have HRD4:=mkA hrd4;clear hrd4;have y0:w4.cell? ⟨w0.heap.size,0,none⟩=some (.slice (some ⟨g,o,none⟩) n c):=(by rw [blk_cell hbk4];rfl);have y1:w4.cell? ⟨w0.heap.size,1,none⟩=some (.int .i64 i4):=(by rw [blk_cell hbk4];rfl);have y2:w4.cell? ⟨w0.heap.size,2,none⟩=some (.bool false):=(by rw [blk_cell hbk4];rfl);have yf1:=blk_frozen hbk4 1;have yf2:=blk_frozen hbk4 2;have hxl4:=blk_lt hbk4;have hi40:(0:Int) ≤ (i4:Int):=Int.natCast_nonneg _;have HBK4:=mkA hbk4;have HW4:=mkA hw4;have HD4:=mkA hd4;have HG4:=mkA (grown_trans (grown_set HG3.out 1 (.int .i64 ((i3:Int) + 1))) hg);clear hrc hg hbk4 hw4 hd4 hr4 hb4)))
              go_quiet (fail)
              go_wp2_with fail
              go_ret
              have hgd:=fun nq=>grown_drewN (World.grownBy.refl w4 none) nq
              refine ⟨_,U.fail,rfl,HR4.out.mk (i:=i4) (by omega) HD4.out (blk_set (((hgd _).block _ (blk_lt HBK4.out) (by simp)).trans HBK4.out) 2 (.bool true)) ((HW4.out.grown (hgd _) (by have:=blk_lt HBK4.out;omega) (fun k hk=>by cases hk)).setCell (p:=⟨w0.heap.size,2,none⟩) (Nat.le_refl _) _),grown_set (grown_trans HG4.out (grown_any (hgd _))) _ _,?_⟩
              exact .inl ⟨defined_bad HDE.out HPS.out HU.out (.inr ⟨t2,r2,HUL.out,beq_eq_false_iff_ne.mp HK2.out⟩),rfl⟩
            · have HFD:=mkA (fun W hW=>HE.out.val t2.t U W hW)
              obtain ⟨vv,hvv⟩:∃ vv,(val t2.t).1=vv:=⟨_,rfl⟩
              obtain ⟨ok,hok⟩:∃ ok,(val t2.t).2=ok:=⟨_,rfl⟩
              rw [hvv,hok] at HFD
              have HOK:=mkA hok
              have HK2:=mkA hk2
              have HT5:=mkA (fun W hW=>HT41.out U.tl W hW)
              obtain ⟨q,hq⟩:∃ q,Lx.isR U.tl [41]=q:=⟨_,rfl⟩
              rw [hq] at HT5
              have HQ:=mkA hq
              clear HE hvv hok hq HT41
              cases p
              · go_wp2_with (first | (go_at_call 103;(with_reducible refine HS40.out.mono ?_);rintro e w3 ⟨rfl,hrc,hg⟩;have hrc:RC w0 w3 (some ⟨g,o,none⟩) n c dv L S:=hrc;have HR3:=mkA hrc;obtain ⟨g3,o3,i3,hA3,hi3,hd3,hrd3,hbk3,hw3,-⟩:=hrc.at HL.out;cases hA3;rw [HB.out] at hbk3;have hxl3:=blk_lt hbk3;have z1:w3.cell? ⟨w0.heap.size,1,none⟩=some (.int .i64 i3):=(by rw [blk_cell hbk3];rfl);have z2:w3.cell? ⟨w0.heap.size,2,none⟩=some (.bool false):=(by rw [blk_cell hbk3];rfl);have zf1:=blk_frozen hbk3 1;have zf2:=blk_frozen hbk3 2;have hm0:=hg.cell HN0.out (by simpa using hxn.symm);have hm2:=hg.cell HN2.out (by simpa using hxn.symm);have hi30:(0:Int) ≤ (i3:Int):=Int.natCast_nonneg _;have hi3n:(i3:Int) < (n:Int):=(by omega);have HG3:=mkA (grown_trans (grown_any HG2.out) hg);have HBK3:=mkA hbk3;have HW3:=mkA hw3;have HD3:=mkA hd3;clear hrc hg hbk3 hw3 hd3 hrd3) | ((have hb4:=blk_set HBK3.out 1 (.int .i64 (i3 + 1:Nat));have hr4:RC w0 (w3.setCell ⟨w0.heap.size,1,none⟩ (.int .i64 ((i3:Int) + 1))) (some ⟨g,o,none⟩) n c dv L S.tl:=HR3.out.mk (i:=i3 + 1) hi3 (tl_drop HD3.out) (by rw [show S.tl.bad=false from HB.out];exact hb4) (HW3.out.setCell (p:=⟨w0.heap.size,1,none⟩) (Nat.le_refl _) _));(go_at_call 103;(with_reducible refine (HT.out _ hr4).mono ?_);rintro e w4 ⟨rfl,hrc,hg⟩;have HR4:=mkA hrc;obtain ⟨g4,o4,i4,hA4,hi4,hd4,hrd4,hbk4,hw4,-,a0,a1,a2,a3⟩:=hrc.at HUL.out;cases hA4;rw [HUB.out] at hbk4;have hi4n:(i4:Int) < (n:Int):=(by omega);have hd1:decide ((n:Int) ≤ (i4:Int))=false:=decide_eq_false (by omega);have hd2:decide (n ≤ i4)=false:=decide_eq_false (by omega);have hd3:¬ n ≤ i4:=(by omega);have HRD4:=mkA hrd4;clear hrd4;have y0:w4.cell? ⟨w0.heap.size,0,none⟩=some (.slice (some ⟨g,o,none⟩) n c):=(by rw [blk_cell hbk4];rfl);have y1:w4.cell? ⟨w0.heap.size,1,none⟩=some (.int .i64 i4):=(by rw [blk_cell hbk4];rfl);have y2:w4.cell? ⟨w0.heap.size,2,none⟩=some (.bool false):=(by rw [blk_cell hbk4];rfl);have yf1:=blk_frozen hbk4 1;have yf2:=blk_frozen hbk4 2;have hxl4:=blk_lt hbk4;have hi40:(0:Int) ≤ (i4:Int):=Int.natCast_nonneg _;have HBK4:=mkA hbk4;have HW4:=mkA hw4;have HD4:=mkA hd4;have HG4:=mkA (grown_trans (grown_set HG3.out 1 (.int .i64 ((i3:Int) + 1))) hg);clear hrc hg hbk4 hw4 hd4 hr4 hb4)))
                go_quiet (fail)
                go_wp2_with fail
                obtain ⟨w5,hw5⟩:∃ w5,w4.drewN nq=w5:=⟨_,rfl⟩
                rw [hw5]
                have hg5:w4.grownBy w5 none:=hw5 ▸ grown_drewN (World.grownBy.refl _ _) _
                have HR5:=mkA (HR4.out.grown hg5)
                have y0:=hg5.cell y0 (by simp)
                have y1:=hg5.cell y1 (by simp)
                have y2:=hg5.cell y2 (by simp)
                have a0:=hg5.cell a0 (by simp)
                have a1:=hg5.cell a1 (by simp)
                have a2:=hg5.cell a2 (by simp)
                have a3:=hg5.cell a3 (by simp)
                have hxl5:=Nat.lt_of_lt_of_le hxl4 hg5.size
                have HG5:=mkA hg5
                clear hw5 hg5
                go_quiet (first | (go_at_call 92;exact Calls.quiet_of_same (HFD.out _ (HR5.out.grown (grown_drewN (World.grownBy.refl _ _) _)))))
                obtain ⟨w6,hw6⟩:∃ w6,w5.drewN nq=w6:=⟨_,rfl⟩
                rw [hw6]
                have hg6:w4.grownBy w6 none:=grown_trans HG5.out (hw6 ▸ grown_drewN (World.grownBy.refl _ _) _)
                have hbk6:=(hg6.block _ (blk_lt HBK4.out) (by simp)).trans HBK4.out
                have hxl6:=blk_lt hbk6
                clear hw6 y0 y1 y2 a0 a1 a2 a3 yf1 yf2 hxl5 hxl4 HG5
                have y1:w6.cell? ⟨w0.heap.size,1,none⟩=some (.int .i64 i4):=by rw [blk_cell hbk6];rfl
                have yf1:=blk_frozen hbk6 1
                have HB7:=mkA (blk_set hbk6 1 (.int .i64 (i4 + 1:Nat)))
                have HW7:=mkA ((HW4.out.grown hg6 (by have:=blk_lt HBK4.out;omega) (fun k hk=>by cases hk)).setCell (p:=⟨w0.heap.size,1,none⟩) (Nat.le_refl _) (.int .i64 (i4 + 1:Nat)))
                have HR7:Aside0 (RC w0 (w6.setCell ⟨w0.heap.size,1,none⟩ (.int .i64 ((i4:Int) + 1))) (some ⟨g,o,none⟩) n c dv L U.tl):=mkA (HR4.out.mk (i:=i4 + 1) (S':=U.tl) (by omega) (tl_drop HD4.out) (by rw [show U.tl.bad=false from HUB.out];exact HB7.out) HW7.out)
                have HG7:=mkA (grown_set (grown_trans HG4.out (grown_any hg6)) 1 (.int .i64 (i4 + 1:Nat)))
                have HK2:=mkA (beq_iff_eq.mp HK2.out)
                have HVD:=mkA (defined_val HDE.out HPS.out HU.out HUL.out HK2.out HUB.out HQ.out)
                clear hg6 hbk6
                go_wp2_with (first | (go_at_call 141;(refine (oner_calls _ _).mono ?_);rintro e w' ⟨rfl,rfl⟩))
                go_ret
                refine ⟨_,U.tl,rfl,HR7.out,HG7.out,.inr ?_⟩
                obtain ⟨e1,e2⟩:=HVD.out.1 (by simp)
                exact ⟨by rw [e1];exact HUB.out,e1.symm,by rw [e2,HOK.out]⟩
              · go_wp2_with (first | (go_at_call 103;(with_reducible refine HS40.out.mono ?_);rintro e w3 ⟨rfl,hrc,hg⟩;have hrc:RC w0 w3 (some ⟨g,o,none⟩) n c dv L S:=hrc;have HR3:=mkA hrc;obtain ⟨g3,o3,i3,hA3,hi3,hd3,hrd3,hbk3,hw3,-⟩:=hrc.at HL.out;cases hA3;rw [HB.out] at hbk3;have hxl3:=blk_lt hbk3;have z1:w3.cell? ⟨w0.heap.size,1,none⟩=some (.int .i64 i3):=(by rw [blk_cell hbk3];rfl);have z2:w3.cell? ⟨w0.heap.size,2,none⟩=some (.bool false):=(by rw [blk_cell hbk3];rfl);have zf1:=blk_frozen hbk3 1;have zf2:=blk_frozen hbk3 2;have hm0:=hg.cell HN0.out (by simpa using hxn.symm);have hm2:=hg.cell HN2.out (by simpa using hxn.symm);have hi30:(0:Int) ≤ (i3:Int):=Int.natCast_nonneg _;have hi3n:(i3:Int) < (n:Int):=(by omega);have HG3:=mkA (grown_trans (grown_any HG2.out) hg);have HBK3:=mkA hbk3;have HW3:=mkA hw3;have HD3:=mkA hd3;clear hrc hg hbk3 hw3 hd3 hrd3) | ((have hb4:=blk_set HBK3.out 1 (.int .i64 (i3 + 1:Nat));have hr4:RC w0 (w3.setCell ⟨w0.heap.size,1,none⟩ (.int .i64 ((i3:Int) + 1))) (some ⟨g,o,none⟩) n c dv L S.tl:=HR3.out.mk (i:=i3 + 1) hi3 (tl_drop HD3.out) (by rw [show S.tl.bad=false from HB.out];exact hb4) (HW3.out.setCell (p:=⟨w0.heap.size,1,none⟩) (Nat.le_refl _) _));(go_at_call 103;(with_reducible refine (HT.out _ hr4).mono ?_);rintro e w4 ⟨rfl,hrc,hg⟩;have HR4:=mkA hrc;obtain ⟨g4,o4,i4,hA4,hi4,hd4,hrd4,hbk4,hw4,-,a0,a1,a2,a3⟩:=hrc.at HUL.out;cases hA4;rw [HUB.out] at hbk4;have hi4n:(i4:Int) < (n:Int):=(by omega);have hd1:decide ((n:Int) ≤ (i4:Int))=false:=decide_eq_false (by omega);have hd2:decide (n ≤ i4)=false:=decide_eq_false (by omega);have hd3:¬ n ≤ i4:=(by omega);have HRD4:=mkA hrd4;clear hrd4;have y0:w4.cell? ⟨w0.heap.size,0,none⟩=some (.slice (some ⟨g,o,none⟩) n c):=(by rw [blk_cell hbk4];rfl);have y1:w4.cell? ⟨w0.heap.size,1,none⟩=some (.int .i64 i4):=(by rw [blk_cell hbk4];rfl);have y2:w4.cell? ⟨w0.heap.size,2,none⟩=some (.bool false):=(by rw [blk_cell hbk4];rfl);have yf1:=blk_frozen hbk4 1;have yf2:=blk_frozen hbk4 2;have hxl4:=blk_lt hbk4;have hi40:(0:Int) ≤ (i4:Int):=Int.natCast_nonneg _;have HBK4:=mkA hbk4;have HW4:=mkA hw4;have HD4:=mkA hd4;have HG4:=mkA (grown_trans (grown_set HG3.out 1 (.int .i64 ((i3:Int) + 1))) hg);clear hrc hg hbk4 hw4 hd4 hr4 hb4)))
                go_quiet (fail)
                go_wp2_with fail
                obtain ⟨w5,hw5⟩:∃ w5,w4.drewN nq=w5:=⟨_,rfl⟩
                rw [hw5]
                have hg5:w4.grownBy w5 none:=hw5 ▸ grown_drewN (World.grownBy.refl _ _) _
                have HR5:=mkA (HR4.out.grown hg5)
                have y0:=hg5.cell y0 (by simp)
                have y1:=hg5.cell y1 (by simp)
                have y2:=hg5.cell y2 (by simp)
                have a0:=hg5.cell a0 (by simp)
                have a1:=hg5.cell a1 (by simp)
                have a2:=hg5.cell a2 (by simp)
                have a3:=hg5.cell a3 (by simp)
                have hxl5:=Nat.lt_of_lt_of_le hxl4 hg5.size
                have HG5:=mkA hg5
                clear hw5 hg5
                go_quiet (first | (go_at_call 92;exact Calls.quiet_of_same (HFD.out _ (HR5.out.grown (grown_drewN (World.grownBy.refl _ _) _)))))
                obtain ⟨w6,hw6⟩:∃ w6,w5.drewN nq=w6:=⟨_,rfl⟩
                rw [hw6]
                have hg6:w4.grownBy w6 none:=grown_trans HG5.out (hw6 ▸ grown_drewN (World.grownBy.refl _ _) _)
                have hbk6:=(hg6.block _ (blk_lt HBK4.out) (by simp)).trans HBK4.out
                have hxl6:=blk_lt hbk6
                clear hw6 y0 y1 y2 a0 a1 a2 a3 yf1 yf2 hxl5 hxl4 HG5
                have y1:w6.cell? ⟨w0.heap.size,1,none⟩=some (.int .i64 i4):=by rw [blk_cell hbk6];rfl
                have yf1:=blk_frozen hbk6 1
                have HB7:=mkA (blk_set hbk6 1 (.int .i64 (i4 + 1:Nat)))
                have HW7:=mkA ((HW4.out.grown hg6 (by have:=blk_lt HBK4.out;omega) (fun k hk=>by cases hk)).setCell (p:=⟨w0.heap.size,1,none⟩) (Nat.le_refl _) (.int .i64 (i4 + 1:Nat)))
                have HR7:Aside0 (RC w0 (w6.setCell ⟨w0.heap.size,1,none⟩ (.int .i64 ((i4:Int) + 1))) (some ⟨g,o,none⟩) n c dv L U.tl):=mkA (HR4.out.mk (i:=i4 + 1) (S':=U.tl) (by omega) (tl_drop HD4.out) (by rw [show U.tl.bad=false from HUB.out];exact HB7.out) HW7.out)
                have HG7:=mkA (grown_set (grown_trans HG4.out (grown_any hg6)) 1 (.int .i64 (i4 + 1:Nat)))
                have HK2:=mkA (beq_iff_eq.mp HK2.out)
                have HVD:=mkA (defined_val HDE.out HPS.out HU.out HUL.out HK2.out HUB.out HQ.out)
                clear hg6 hbk6
                go_wp2_with (first | (go_at_call 103;(with_reducible refine (HT5.out _ HR7.out).mono ?_);rintro e w8 ⟨rfl,hrc,hg⟩;have HR8:=mkA hrc;obtain ⟨-,i8,hi8,hd8,hbk8,hw8⟩:=hrc;have y82:w8.cell? ⟨w0.heap.size,2,none⟩=some (.bool (if q=true then U.tl.tl else U.tl).bad):=(by rw [blk_cell hbk8];rfl);have yf8:=blk_frozen hbk8 2;have hxl8:=blk_lt hbk8;have HBK8:=mkA hbk8;have HD8:=mkA hd8;have HW8:=mkA hw8;have HG8:=mkA (grown_trans HG7.out hg);clear hg hd8 hbk8 hw8) | (go_at_call 141;(refine (oner_calls _ _).mono ?_);rintro e w' ⟨rfl,rfl⟩))
                · have hq5:q=false:=by first | assumption | (rename_i qq;simpa using qq)
                  subst hq5
                  go_ret
                  exact ⟨_,U.tl.fail,rfl,HR8.out.mk (i:=i8) hi8 HD8.out (blk_set HBK8.out 2 (.bool true)) (HW8.out.setCell (p:=⟨w0.heap.size,2,none⟩) (Nat.le_refl _) _),grown_set HG8.out _ _,.inl ⟨HVD.out.2.2 (by simp) (by simp),rfl⟩⟩
                · have hq5:q=true:=by first | assumption | (rename_i qq;simpa using qq)
                  subst hq5
                  go_ret
                  refine ⟨_,U.tl.tl,rfl,HR8.out,HG8.out,.inr ?_⟩
                  obtain ⟨e1,e2⟩:=HVD.out.2.1 (by simp) (by simp)
                  exact ⟨by rw [e1];exact HUB.out,e1.symm,by rw [e2,HOK.out]⟩
      · rw [if_pos (beq_iff_eq.mp h3)] at hf
        have HNUM:=mkA (HE.out.num t hPt (beq_iff_eq.mp h3))
        obtain ⟨ok,hok⟩:∃ ok,(num t.t).2=ok:=⟨_,rfl⟩
        rw [hok] at hf HNUM
        have HF:=mkA hf
        clear hf hok HE
        go_wp2_with (first
          | (go_at_call 103;(with_reducible refine HS40.out.mono ?_);rintro e w3 ⟨rfl,hrc,hg⟩;have hrc:RC w0 w3 (some ⟨g,o,none⟩) n c dv L S:=hrc;have HR3:=mkA hrc;obtain ⟨g3,o3,i3,hA3,hi3,hd3,hrd3,hbk3,hw3,-⟩:=hrc.at HL.out;cases hA3;rw [HB.out] at hbk3;have hxl3:=blk_lt hbk3;have z1:w3.cell? ⟨w0.heap.size,1,none⟩=some (.int .i64 i3):=(by rw [blk_cell hbk3];rfl);have z2:w3.cell? ⟨w0.heap.size,2,none⟩=some (.bool false):=(by rw [blk_cell hbk3];rfl);have zf1:=blk_frozen hbk3 1;have zf2:=blk_frozen hbk3 2;have hm0:=hg.cell HN0.out (by simpa using hxn.symm);have hm2:=hg.cell HN2.out (by simpa using hxn.symm);have hi30:(0:Int) ≤ (i3:Int):=Int.natCast_nonneg _;have hi3n:(i3:Int) < (n:Int):=(by omega);have HG3:=mkA (grown_trans (grown_any HG2.out) hg);have HBK3:=mkA hbk3;have HW3:=mkA hw3;have HD3:=mkA hd3;clear hrc hg hbk3 hw3 hd3 hrd3) | (go_at_call 169;(with_reducible refine (HNUM.out _ (HW3.out.setCell (p:=⟨w0.heap.size,1,none⟩) (Nat.le_refl _) _)).mono ?_);rintro e w4 ⟨v',rfl,hv',rfl⟩;have HV':=mkA hv';clear hv'))
        go_ret
        refine ⟨_,⟨S.tl.l,!ok⟩,rfl,HR3.out.mk (i:=i3 + 1) hi3 (tl_drop HD3.out) (blk_set (blk_set HBK3.out 1 (.int .i64 (i3 + 1:Nat))) 2 (.bool (!ok))) ((HW3.out.setCell (p:=⟨w0.heap.size,1,none⟩) (Nat.le_refl _) _).setCell (p:=⟨w0.heap.size,2,none⟩) (Nat.le_refl _) _),grown_set (grown_set HG3.out _ _) _ _,?_⟩
        have hf:=HF.out
        have hv:=HV'.out
        cases ok
        · rw [if_neg Bool.false_ne_true] at hf
          cases hf
          exact .inl ⟨rfl,rfl⟩
        · rw [if_pos rfl] at hf
          cases hf
          refine .inr ⟨HBT.out,?_,hv rfl⟩
          show (⟨S.tl.l,false⟩:Lx.ES)=S.tl
          rw [← HBT.out]
    · rw [if_pos hpa] at hf
      rw [hpa] at hs40
      have HS40:=mkA hs40
      cases hbf:Lx.binF num val m 1 S.tl with
      | none=>rw [hbf] at hf;cases hf
      | some q =>
      obtain ⟨v1,T1⟩:=q
      rw [hbf] at hf
      dsimp only at hf
      have hlv:=fun W (hW:RC w0 W (some ⟨g,o,none⟩) n c dv L S.tl)=>IH m (Nat.lt_succ_self m) 0 S.tl T1 v1 W (by omega) hbf HB.out hW
      have HLV:=mkA (show ∀ W,RC w0 W (some ⟨g,o,none⟩) n c dv L S.tl → Calls Tryz.prog 87 #[.pointer (some ⟨w0.heap.size,0,none⟩),.int .i64 0] W (PostR w0 (some ⟨g,o,none⟩) n c dv L W v1 T1) from hlv)
      have HF:=mkA hf
      clear hs40 hpa hbf hlv hf IH hn0 hn2
      go_wp2_with (first
        | (go_at_call 103;(with_reducible refine HS40.out.mono ?_);rintro e w3 ⟨rfl,hrc,hg⟩;have hrc:RC w0 w3 (some ⟨g,o,none⟩) n c dv L S.tl:=hrc;have HR3:=mkA hrc;have HG3:=mkA (grown_trans (grown_any HG2.out) hg);clear hrc hg) | (go_at_call 87;(refine (HLV.out w3 HR3.out).mono ?_);rintro e w4 ⟨v',T1',rfl,hrc,hg,hsm⟩;have hs41:=HT41.out T1' w4 hrc;obtain ⟨b,hbb⟩:∃ b,Lx.isR T1' [41]=b:=⟨_,rfl⟩;rw [hbb] at hs41;have HS41:=mkA hs41;have HBB:=mkA hbb;have HSM:=mkA hsm;have HG4:=mkA (grown_trans HG3.out hg);clear hrc hg hsm hs41 hbb) | (go_at_call 103;(with_reducible refine HS41.out.mono ?_);rintro e w5 ⟨rfl,hrc,hg⟩;have HR5:=mkA hrc;obtain ⟨-,i5,hi5,hd5,hbk5,hw5⟩:=hrc;have y52:w5.cell? ⟨w0.heap.size,2,none⟩=some (.bool (if b=true then T1'.tl else T1').bad):=(by rw [blk_cell hbk5];rfl);have yf5:=blk_frozen hbk5 2;have hxl5:=blk_lt hbk5;have HBK5:=mkA hbk5;have HD5:=mkA hd5;have HW5:=mkA hw5;have HG5:=mkA (grown_trans HG4.out hg);clear hg hd5 hbk5 hw5))
      · have hb5:b=false:=by first | assumption | (rename_i q;simpa using q)
        subst hb5
        go_ret
        exact ⟨_,T1'.fail,rfl,RC.fail HR5.out hi5 HD5.out (blk_set HBK5.out 2 (.bool true)) (HW5.out.setCell (p:=⟨w0.heap.size,2,none⟩) (Nat.le_refl _) _),grown_set HG5.out _ _,paren_no HSM.out HBB.out HF.out⟩
      · have hb5:b=true:=by first | assumption | (rename_i q;simpa using q)
        subst hb5
        go_ret
        exact ⟨_,T1'.tl,rfl,HR5.out,HG5.out,paren_yes HSM.out HBB.out HF.out⟩
end Go.Proofs.YtjnafjgonoficaaGreatDoor
