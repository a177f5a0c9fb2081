/-
  The constants of the laws' own check 'awake', reckoned by the kernel: the tokens, groups, places and view of its text, and its expression's value. No program in sight. Conditions: none.
  The list of the operators, as it is laid in memory. Conditions: none.
  What cond.Eval comes to, where the evaluator's binary is known. Conditions: the text is short; the library's variables are as their text lays them.
  What the numbers and names of the laws' own check 'awake' come to. Conditions: the library's variables are as their text lays them; the definitions lie in memory.
  slices.Backward over strings: what its iterator hands on, the last one first. Conditions: the rounds leave the slice and the variable that holds it alone.
  What the evaluator's 'one' comes to. Conditions: the evaluator's block is its own; what operands come to is known.
  What the laws' own check 'awake' comes to: true. Conditions: the library's variables are as their text lays them.
  What an expression comes to, in the program and in the reference: the same, by one plain function. Conditions: the text is short; the definitions lie in memory; the library's variables are as their text lays them.
  What a condition in memory says, and the search for the first that is true. Conditions: the conditions and the definitions lie in memory; the library's variables are as their text lays them.
  What groups look like: lines with conditions, perhaps an else, an endif; and every line with a condition is in a group. No program in sight. Conditions: none.
  The choice that definitions make, plainly: by the conditions in order, and from the last line backwards; both are the same. No program in sight. Conditions: none.
-/
import Derived.RangeFuncNested
import Derived.RangeFuncBox
import Derived.RangeFuncLeaves
import Derived.Shelf.Abstract
import Derived.WalkKit
import Derived.OwnWalkIn
import Derived.TacticsInMore
import Derived.LoopNIn
import Derived.LoopIn
import Derived.LoopN
import Derived.Lib.ParseIntBTie
import Derived.Test.YtjnafjgonoficaaGreatDoorF17
import Derived.Test.YtjnafjgonoficaaGreatDoorF07
import Derived.Test.YtjnafjgonoficaaGreatDoorF12
import Derived.Test.YtjnafjgonoficaaGreatDoorF16
import Derived.Test.YtjnafjgonoficaaGreatDoorF09
import Derived.Test.YtjnafjgonoficaaGreatDoorF06
import Derived.Test.YtjnafjgonoficaaGreatDoorF11
set_option linter.unusedVariables false
set_option linter.unusedSimpArgs false
namespace Go.Proofs.YtjnafjgonoficaaGreatDoor
open Go.RowKit Go.Proofs.YtjnafjgonoficaaGreatDoorW.PrintWords
namespace Lx
def awText:ByteArray:=⟨#[35,105,102,32,65,10,120,10,35,101,108,115,101,10,121,10,35,101,110,100,105,102,10]⟩
def awL:List Tok:=scan awText
def awGs:List G:=(groups (awL.map kindOf)).1
def awOuts:List (List (Int × Int)):=(places awGs awL.length).getD []
theorem aw_len:awL.length=6:=by decide +kernel
theorem aw_err:(groups (awL.map kindOf)).2.1=0:=by decide +kernel
theorem aw_gs:awGs.length=1:=by decide +kernel
theorem aw_some:(places awGs awL.length).isSome=true:=by decide +kernel
theorem aw_places:places awGs awL.length=some awOuts:=by
  have h:=aw_some
  unfold awOuts
  obtain ⟨o,ho⟩:=Option.isSome_iff_exists.1 h
  rw [ho];rfl
theorem aw_outs:awOuts.length=6:=by decide +kernel
theorem aw_view:viewL (List.replicate 1 0) awL awOuts 0=[1,5]:=by decide +kernel
theorem aw_short:awL.all (fun t=>decide (t.t.size ≤ 20000))=true:=by decide +kernel
theorem aw_br:awGs.all (fun g=>decide (0 < g.br))=true:=by decide +kernel
theorem aw_in:awOuts.all (fun o=>decide (o.length ≤ 1000000) && o.all fun p=>decide (0 ≤ p.1) && decide (p.1 < 1))=true:=by decide +kernel
theorem aw_fits:Fits (List.replicate awGs.length 0) awGs awOuts:=by
  refine ⟨by simp,?_,?_⟩
  · intro i x g hx hg
    have h1:=List.all_eq_true.1 aw_br g (List.mem_of_getElem? hg)
    have h2:x=0:=by
      have:=List.mem_of_getElem? hx
      exact (List.mem_replicate.1 this).2
    have h3:=of_decide_eq_true h1
    omega
  · intro o ho
    have h1:=List.all_eq_true.1 aw_in o ho
    rw [Bool.and_eq_true] at h1
    refine ⟨of_decide_eq_true h1.1,fun p hp => ?_⟩
    have h2:=List.all_eq_true.1 h1.2 p hp
    rw [Bool.and_eq_true] at h2
    rw [List.length_replicate,aw_gs]
    have h3:=of_decide_eq_true h2.1
    have h4:=of_decide_eq_true h2.2
    omega
theorem aw_small:Small awGs:=groups_small 0 (awL.map kindOf) (by rw [List.length_map,aw_len];omega)
def awExpr:ByteArray:=⟨#[49,32,43,32,65,32,42,32,50]⟩
def awNum (b:ByteArray):Int × Bool:=if (b.data.toList == [49])=true then (1,true) else (2,true)
def awDefs:List (ByteArray × ByteArray):=[(⟨#[65]⟩,⟨#[51]⟩)]
theorem aw_eval:evalF awNum (valOf awDefs) 60 (wd awExpr 0)=some (7,true):=by decide +kernel
theorem aw_words:(wd awExpr 0).all (fun t => !(t.k == 3) || (t.t.data.toList == [49] || t.t.data.toList == [50]))=true:=by decide +kernel
end Lx
def opCells:Array Value:=((Lx.ops.zip opFuncs).flatMap fun x=>[.string ⟨x.1.1.toArray⟩,.int .i64 x.1.2,.func (.func x.2) #[] #[]]).toArray
theorem opsAt_new {w:World} {g:Nat} (h:w.heap[g]? = some (.cells opCells 118 (0,0))):OpsAt w g:=by
  refine ⟨blk_lt h,fun j o hj => ?_⟩
  have hj13:j < 13:=(List.getElem?_eq_some_iff.1 hj).1
  rw [blk_cell h,blk_cell h,blk_cell h]
  match j,hj13 with
  | 0,_=>cases hj;exact ⟨rfl,rfl,_,rfl,rfl⟩
  | 1,_=>cases hj;exact ⟨rfl,rfl,_,rfl,rfl⟩
  | 2,_=>cases hj;exact ⟨rfl,rfl,_,rfl,rfl⟩
  | 3,_=>cases hj;exact ⟨rfl,rfl,_,rfl,rfl⟩
  | 4,_=>cases hj;exact ⟨rfl,rfl,_,rfl,rfl⟩
  | 5,_=>cases hj;exact ⟨rfl,rfl,_,rfl,rfl⟩
  | 6,_=>cases hj;exact ⟨rfl,rfl,_,rfl,rfl⟩
  | 7,_=>cases hj;exact ⟨rfl,rfl,_,rfl,rfl⟩
  | 8,_=>cases hj;exact ⟨rfl,rfl,_,rfl,rfl⟩
  | 9,_=>cases hj;exact ⟨rfl,rfl,_,rfl,rfl⟩
  | 10,_=>cases hj;exact ⟨rfl,rfl,_,rfl,rfl⟩
  | 11,_=>cases hj;exact ⟨rfl,rfl,_,rfl,rfl⟩
  | 12,_=>cases hj;exact ⟨rfl,rfl,_,rfl,rfl⟩
set_option maxRecDepth 100000 in
theorem operators_calls (w:World):Calls Tryz.prog 50 #[] w fun e w'=>e=.returned (.slice (some ⟨w.heap.size,0,none⟩) 13 13)∧w'=w.alloc (.cells opCells 118):=by
  go_enter Tryz.func50,Tryz.ntmps50
  go_wp2_with fail
  go_ret
  exact ⟨rfl,rfl⟩
set_option maxRecDepth 100000 in
set_option maxHeartbeats 4000000 in
theorem eval_from {num val:ByteArray → Int × Bool} {P:Lx.Tok → Prop} {DA:Option Addr} {DN DC:Nat} (s:ByteArray) (w:World) (m:Nat) (R:Int × Bool) (hs:s.size ≤ 20000) (hm:MaxLen w) (hbl:Blanks w) (h5:5 ≤ w.heap.size) (hP:∀ t ∈ Lx.wd s 0,P t)
    (hC:∀ (w0:World) (og:Nat),Below w.heap.size w w0 → OpsAt w0 og → EnvC num val P w0 (.slice DA DN DC) og) (hB:∀ (w0:World) (og:Nat),EnvC num val P w0 (.slice DA DN DC) og → BinC num val P w0 (.slice DA DN DC) og m) (hR:Lx.evalF num val m (Lx.wd s 0)=some R) :
    Calls Tryz.prog 25 #[.string s,(.slice DA DN DC)] w fun e w'=>e=.returned (.tuple #[.int .i64 R.1,.bool R.2])∧Below w.heap.size w w':=by
  have HWD:=mkA (words_calls s.size s 0 w rfl hs (by omega) (by omega) hm hbl h5)
  unfold Lx.evalF at hR
  cases hb:Lx.binF num val m 1 ⟨Lx.wd s 0,false⟩ with
  | none=>rw [hb] at hR;cases hR
  | some q =>
  obtain ⟨v,T⟩:=q
  rw [hb] at hR
  dsimp only at hR
  have HB:=mkA hB
  have HC:=mkA hC
  have HP:=mkA (show AllP P (Lx.wd s 0) from ⟨hP,by have:=Lx.wd_len s 0;omega⟩)
  have HBN:=mkA hb
  obtain ⟨tl,bad⟩:=T
  obtain ⟨n3,hn3⟩:∃ n3,tl.length=n3:=⟨_,rfl⟩
  have HN3:=mkA hn3
  have hRR:R=(if (bad || decide (0 < n3))=true then (0,false) else (v,true)):=by
    rw [← hn3]
    dsimp only at hR
    cases bad <;> cases tl <;> simp at hR ⊢ <;> exact hR.symm
  clear hn3 hR
  clear hm hbl hs hP hC hB hb
  have key:∀ (w1:World) (v1:Value),w1.ownsRow w.heap.size 29 4 v1 (Lx.wd s 0).length (tokCells (Lx.wd s 0)) → Below w.heap.size w w1 →
      Calls Tryz.prog 51 #[.pointer (some ⟨w1.heap.size + 1,0,none⟩),.int .i64 1] ((w1.alloc (.cells opCells 118)).alloc (.cells #[v1,(.slice DA DN DC),.slice (some ⟨w1.heap.size,0,none⟩) 13 13,.bool false] 95)) fun e w' =>
        e=.returned (.int .i64 v)∧EV (w1.alloc (.cells opCells 118)) w' (.slice DA DN DC) (ovOf w1.heap.size) ⟨tl,bad⟩∧Below w.heap.size w w':=by
    intro w1 v1 hown hbw
    have hbw2:=hbw.alloc hbw.size (.cells opCells 118)
    have hops:OpsAt (w1.alloc (.cells opCells 118)) w1.heap.size:=opsAt_new (blk_new w1 _)
    have henv:=HC.out _ _ hbw2 hops
    have hbin:=HB.out _ _ henv
    have hx:(w1.alloc (.cells opCells 118)).heap.size=w1.heap.size + 1:=by simp
    have hev:EVP P (w1.alloc (.cells opCells 118)) ((w1.alloc (.cells opCells 118)).alloc (.cells #[v1,(.slice DA DN DC),.slice (some ⟨w1.heap.size,0,none⟩) 13 13,.bool false] 95)) (.slice DA DN DC) (ovOf w1.heap.size) ⟨Lx.wd s 0,false⟩:=by
      refine ⟨⟨v1,blk_new _ _,own_tks (hown.alloc _),(Below.refl _ _).alloc (Nat.le_refl _) _⟩,HP.out⟩
    have h1:=hbin _ 1 _ _ _ (Nat.le_refl _) (by omega) HBN.out hev
    rw [hx] at h1
    refine h1.mono ?_
    rintro e w' ⟨e1,e2,e3⟩
    refine ⟨e1,e2.1,?_⟩
    have hb3:=hbw2.alloc hbw2.size (.cells #[v1,(.slice DA DN DC),.slice (some ⟨w1.heap.size,0,none⟩) 13 13,.bool false] 95)
    exact hb3.grown e3 hb3.size (fun k hk=>by cases hk;have:=hbw.size;omega)
  have KEY:=mkA key
  clear key HB HC HP HBN
  have hcs:bad=true ∨ bad=false∧(n3=0 ∨ decide ((0:Int) < (n3:Int))=true∧0 < n3):=by
    cases bad
    · right
      refine ⟨rfl,?_⟩
      rcases Nat.eq_zero_or_pos n3 with h | h
      · exact .inl h
      · exact .inr ⟨decide_eq_true (by omega),h⟩
    · exact .inl rfl
  rcases hcs with rfl | ⟨rfl,rfl | ⟨hd,hpos⟩⟩
  all_goals
    simp only [Bool.true_or,Bool.false_or,if_true,Nat.lt_irrefl,decide_false,Bool.false_eq_true,if_false] at hRR
    try rw [decide_eq_true hpos,if_pos rfl] at hRR
    subst hRR
    go_enter Tryz.func25,Tryz.ntmps25
    go_wp2_with (first | (go_at_call 41;(refine HWD.out.mono ?_);rintro e w1 ⟨v1,rfl,hown,hb⟩;have HK:=mkA (KEY.out w1 v1 hown hb);obtain ⟨A1,c1,rfl⟩:=own_slice hown;clear hown hb) | (go_at_call 50;(refine (operators_calls _).mono ?_);rintro e w2 ⟨rfl,rfl⟩) | (go_at_call 51;(refine HK.out.mono ?_);rintro e w3 ⟨rfl,hev,hb⟩;obtain ⟨lv3,hxb,htk3,-⟩:=hev;obtain ⟨A3,c3,rfl,-,-,-⟩:=htk3;rw [show (w1.alloc (.cells opCells 118)).heap.size=w1.heap.size + 1 from by simp] at hxb;dsimp only at hxb;rw [HN3.out] at hxb;have x0:w3.cell? ⟨w1.heap.size + 1,0,none⟩=some (.slice A3 _ c3):=(by rw [blk_cell hxb];rfl);have x3:w3.cell? ⟨w1.heap.size + 1,3,none⟩=some (.bool _):=(by rw [blk_cell hxb];rfl);have HB3:=mkA hb;clear hb hxb))
    go_ret2
    exact ⟨rfl,HB3.out⟩
def AwP (t:Lx.Tok):Prop:=t.k=3 → t.t.data.toList=[49] ∨ t.t.data.toList=[50]
theorem aw_P:∀ t ∈ Lx.wd Lx.awExpr 0,AwP t:=by
  intro t ht hk
  have h:=List.all_eq_true.1 Lx.aw_words t ht
  rw [hk] at h
  simpa using h
theorem bytes_of {b:ByteArray} {l:List UInt8} (h:b.data.toList=l):b=⟨l.toArray⟩:=by
  cases b with
  | mk d=>subst h;simp
theorem env_aw (w0:World) (dv:Value) (og:Nat) (hO:OpsAt w0 og) (hT:Lib.Utf8Tabs 6 7 w0) (hV:Lib.CaseVar 5 Lib.caseA w0) (hD:Dfs w0 dv Lx.awDefs) (hE:Errs w0):EnvC Lx.awNum (Lx.valOf Lx.awDefs) AwP w0 dv og:=by
  refine ⟨hO,?_,?_⟩
  · intro t hP hk w hb
    rcases hP hk with h | h
    · have e:=bytes_of h
      rw [e]
      refine (number_one w (Utf8Tabs_below hT hb) (Lib.CaseVar_below hV hb)).mono ?_
      rintro e w' ⟨rfl,h2⟩
      exact ⟨rfl,grown_below (World.grownBy.refl _ _) h2⟩
    · have e:=bytes_of h
      rw [e]
      refine (number_two w (Utf8Tabs_below hT hb) (Lib.CaseVar_below hV hb)).mono ?_
      rintro e w' ⟨rfl,h2⟩
      exact ⟨rfl,grown_below (World.grownBy.refl _ _) h2⟩
  · intro t hP hk w hb
    exact value_calls w dv Lx.awDefs t.t (hD.below hb) (hE.below hb)
end Go.Proofs.YtjnafjgonoficaaGreatDoor
namespace Go.Proofs.YtjnafjgonoficaaGreatDoor
open Go.RowKit Go.Shelf Go.Proofs.YtjnafjgonoficaaGreatDoorW.PrintWords
attribute [local go_sem] Oper.semAt_some
def downAt (L:List ByteArray) (j:Nat):Nat × ByteArray:=(L.length - 1 - j,L[L.length - 1 - j]?.getD ⟨#[]⟩)
def downTo (L:List ByteArray) (k:Nat):List (Nat × ByteArray):=(List.range k).map (downAt L)
theorem downTo_succ (L:List ByteArray) (k:Nat):downTo L (k + 1)=downTo L k ++ [downAt L k]:=by simp [downTo,List.range_succ]
theorem downTo_length (L:List ByteArray) (k:Nat):(downTo L k).length=k:=by simp [downTo]
theorem down_snd (L:List ByteArray):(downTo L L.length).map (·.2)=L.reverse:=by
  apply List.ext_getElem
  · simp [downTo]
  · intro i h1 h2
    have hi:i < L.length:=by simpa using h2
    rw [List.getElem_reverse,List.getElem_map]
    unfold downTo downAt
    rw [List.getElem_map,List.getElem_range]
    dsimp only
    rw [List.getElem?_eq_getElem (by omega)]
    rfl
theorem down_fold (L:List ByteArray) (v:Int):(downTo L L.length).foldl (fun v x=>Lx.signed1 x.2 v) v=Lx.signed L v:=by
  have h:(downTo L L.length).foldl (fun v x=>Lx.signed1 x.2 v) v=((downTo L L.length).map (·.2)).foldl (fun v g=>Lx.signed1 g v) v:=by rw [List.foldl_map]
  rw [h,down_snd,List.foldl_reverse]
  rfl
def KeepTwo (p q:Nat) (A B:World):Prop:=B.heap[p]? = A.heap[p]?∧B.heap[q]? = A.heap[q]?
theorem KeepTwo.refl (p q:Nat) (A:World):KeepTwo p q A A:=⟨rfl,rfl⟩
theorem KeepTwo.trans {p q:Nat} {A B C:World} (h:KeepTwo p q A B) (k:KeepTwo p q B C):KeepTwo p q A C:=⟨k.1.trans h.1,k.2.trans h.2⟩
theorem KeepTwo.put {p q n:Nat} (hp:p < n) (hq:q < n) (W:World) (l:Nat) (o o':Obj) (hl:n ≤ l) (h:W.heap[l]? = some o) (_:o.isCells=false) (_:o.isWalk=false):KeepTwo p q W (W.putObj l o') :=
  ⟨World.putObj_heap_other (by omega),World.putObj_heap_other (by omega)⟩
set_option maxRecDepth 100000 in
set_option maxHeartbeats 4000000 in
theorem back1_in (F:Fence) (n:Nat) (hF:F.fn 140) (hro:F.round=none) (hn:1 ≤ n) (l Bs q m0 cap:Nat) (A:Option Addr) (L:List ByteArray) (hm:L.length=m0) (hreach:m0 ≤ 1000000) (J Jx:List (Nat × ByteArray) → World → Prop)
    (hY:∀ pre x W,J pre W → pre.length < m0 → YieldAt F (n - 1) Tryz.prog l #[.int .i64 (x.1:Int),.string x.2] W fun e W' =>
      (e=.returned (.bool true)∧J (pre ++ [x]) W'∧KeepTwo Bs q W W') ∨ (e=.returned (.bool false)∧Jx (pre ++ [x]) W'))
    (W:World) (hBs:W.cell? ⟨Bs,0,none⟩=some (.slice A m0 cap)) (hA:m0=0 ∨ ∃ off,A=some ⟨q,off,none⟩∧m0 ≤ cap∧∀ j,j < m0 → W.cell? ⟨q,off + j,none⟩=some (.string (L[j]?.getD ⟨#[]⟩))) (h0:J [] W) :
    CallsIn F n Tryz.prog 140 #[.func (.yield l) #[] #[],.pointer (some ⟨Bs,0,none⟩)] W fun e W'=>(∃ v,e=.returned v) ∧
      ((∃ ys,ys=downTo L m0∧J ys W') ∨ (∃ pre,True∧Jx pre W')):=by
  have hw0:IntKind.i64.wrap ((m0:Int) - 1)=(m0:Int) - 1:=IntWalk.i64_in _ (by omega)
  refine callsIn_of_wp Tryz.func140 rfl hF ?_ hro
  simp only [Tryz.ntmps140,List.size_toArray,List.length_cons,List.length_nil,Nat.reduceAdd,Nat.reduceSub,Array.replicate_succ,Array.replicate_zero,List.push_toArray,List.append_toArray,List.nil_append,List.cons_append]
  gi_wp2
  gi_loopw [3] (fun i wr => ∃ m k:Nat,m + k=m0∧i=.int .i64 ((m:Int) - 1)∧J (downTo L k) wr∧KeepTwo Bs q W wr)
    (fun i _=>(intOf i + 1).toNat)
  case atStart=>exact ⟨m0,0,rfl,by go_num,h0,KeepTwo.refl _ _ _⟩
  case round =>
    obtain ⟨m,k,hmk,rfl,hJs,hkp⟩:=hrel
    have hbs:=(World.cell?_of_block (w:=W) (a:=⟨Bs,0,none⟩) hkp.1).trans hBs
    cases m with
    | zero =>
      obtain rfl:k=m0:=by omega
      rw [show ((0:Nat):Int) - 1 = -1 from rfl]
      gi_wp2
      go_end0
      exact ⟨⟨_,rfl⟩,.inl ⟨_,rfl,hJs⟩⟩
    | succ p =>
      have hp1:((p + 1:Nat):Int) - 1=(p:Int):=by omega
      rw [hp1]
      obtain ⟨off,rfl,hcap,hcs⟩:=hA.resolve_left (by omega)
      have hcx:wr.cell? ⟨q,off + p,none⟩=some (.string (L[p]?.getD ⟨#[]⟩)):=(World.cell?_of_block (w:=W) (a:=⟨q,off + p,none⟩) hkp.2).trans (hcs p (by omega))
      have hd:downAt L k=(p,L[p]?.getD ⟨#[]⟩):=by
        unfold downAt
        rw [show L.length - 1 - k=p by omega]
      generalize L[p]?.getD ⟨#[]⟩=g at hcx hd
      have HD:=mkA hd
      clear hd hcs
      obtain ⟨fn,tmps,assign,body,hy,hR⟩:=hY _ (p,g) wr hJs (by rw [downTo_length];omega)
      dsimp only at hy
      have hw1:IntKind.i64.wrap ((p:Int) - 1)=(p:Int) - 1:=IntWalk.i64_in _ (by omega)
      have hlt:p < m0:=by omega
      gi_wp2
      refine hR.mono ?_
      rintro e W3 (⟨rfl,hJ3,hk3⟩ | ⟨rfl,hJx3⟩)
      · gi_wp2
        go_roundw
        case rel=>exact ⟨p,k + 1,by omega,by go_num,by rw [downTo_succ,HD.out];exact hJ3,hkp.trans hk3⟩
        case measure=>simp [intOf]
      · gi_wp2
        refine bodyPost_ret (results_none rfl _ _ _) rfl ?_
        exact ⟨⟨_,rfl⟩,.inr ⟨_,trivial,hJx3⟩⟩
theorem back_stops (F:Fence) (n:Nat) (hF:F.fn 140) (hro:F.round=none) (hn:1 ≤ n) (Bs q m0 cap:Nat) (A:Option Addr) (L:List ByteArray) (hm:L.length=m0) (hreach:m0 ≤ 1000000) (w:World) (hBl:Bs < w.heap.size)
    (hBs:w.cell? ⟨Bs,0,none⟩=some (.slice A m0 cap)) (hA:m0=0 ∨ ∃ off,A=some ⟨q,off,none⟩∧m0 ≤ cap∧q < w.heap.size∧∀ j,j < m0 → w.cell? ⟨q,off + j,none⟩=some (.string (L[j]?.getD ⟨#[]⟩))) :
    SeqStopsK F n Tryz.prog 140 #[.pointer (some ⟨Bs,0,none⟩)] (fun x:Nat × ByteArray => #[Value.int .i64 (x.1:Int),Value.string x.2]) (KeepTwo Bs q) (fun ys=>ys=downTo L m0) (fun _=>True) m0 w:=fun l J Jx W hW _ _ hY h0=>by
  refine back1_in F n hF hro hn l Bs q m0 cap A L hm hreach J Jx hY W ((hW.cell (p:=⟨Bs,0,none⟩) hBl).trans hBs) (hA.imp id ?_) h0
  rintro ⟨off,e,hc,hq,hcs⟩
  exact ⟨off,e,hc,fun j hj=>(hW.cell (p:=⟨q,off + j,none⟩) hq).trans (hcs j hj)⟩
theorem calls_of_wp_marks {P:Program} {f:FuncId} {fn:Func} {c:Code} {args:Array Value} {w:World} {R:Ending → World → Prop} (hf:P.funcs[f]? = some fn) (hb:fn.body=some c)
    (h:c.wp P (bodyPostM Fence.wide 8 P fn R) { tmps:=args ++ Array.replicate (fn.ntmps - args.size) undef,defers:=[] } w):Calls P f args w R :=
  callsIn_wide.1 (callsIn_of_wp_marks (n:=8) hf hb trivial (wpIn_wide.2 h) rfl)
end Go.Proofs.YtjnafjgonoficaaGreatDoor
namespace Go.Proofs.YtjnafjgonoficaaGreatDoor
open Go.RowKit Go.Shelf Go.Proofs.YtjnafjgonoficaaGreatDoorW.PrintWords
attribute [local go_sem] Oper.semAt_some
theorem signs_at {w5 w7:World} {base n c3:Nat} {A3:Option Addr} {done:List ByteArray} (hn:done.length=n) (h5:w5.ownsRow base 9 1 (.slice A3 n c3) n (done.map .string)) (h7:w7.ownsRow base 9 1 (.slice A3 n c3) n (done.map .string)) (hs:w7.heap.size=w5.heap.size + 2) :
    ∃ q,q < w7.heap.size∧q ≠ w5.heap.size∧(n=0 ∨ ∃ off,A3=some ⟨q,off,none⟩∧n ≤ c3∧q < w7.heap.size∧∀ j,j < n → w7.cell? ⟨q,off + j,none⟩=some (.string (done[j]?.getD ⟨#[]⟩))):=by
  rcases Nat.eq_zero_or_pos n with h0 | h0
  · exact ⟨w5.heap.size + 1,by omega,by omega,.inl h0⟩
  · have hcap:n ≤ c3:=by
      rcases h5.2 with ⟨e,h1⟩ | ⟨g,cap,cur,e,-,-,h1,-⟩
      · omega
      · simp only [Value.slice.injEq] at e
        omega
    obtain ⟨g,c',e,hgb,hgl⟩:=h5.form h0
    simp only [Value.slice.injEq] at e
    obtain ⟨rfl,-,rfl⟩:=e
    refine ⟨g,by omega,by omega,.inr ⟨0,rfl,hcap,by omega,fun j hj => ?_⟩⟩
    rw [Nat.zero_add,h7.cellAt j (by omega),List.getElem?_map,List.getElem?_eq_getElem (by omega)]
    rfl
theorem grown_new_row {w w1 w2:World} {row row2:Option Nat} (h:w.grownBy w1 row) (k:w1.grownBy w2 row2) (hr:∀ b,row2=some b → w.heap.size ≤ b):w.grownBy w2 row :=
  ⟨k.os.trans h.os,k.tape.trans h.tape,k.output.trans h.output,Nat.le_trans h.size k.size,fun j hj hne=>(k.block j (Nat.lt_of_lt_of_le hj h.size) (fun e=>by have:=hr j e.symm;omega)).trans (h.block j hj hne)⟩
theorem EV.row {w0 w w':World} {dv ov:Value} {S:Lx.ES} {row:Option Nat} (h:EV w0 w dv ov S) (hg:w.grownBy w' row) (hr:∀ b,row=some b → w0.heap.size < b):EV w0 w' dv ov S:=by
  obtain ⟨lv,h1,h2,h3⟩:=h
  exact ⟨lv,(hg.block _ (blk_lt h1) (fun e=>by have:=hr _ e.symm;omega)).trans h1,h2,h3.grown hg (by have:=blk_lt h1;omega) (fun k hk=>by have:=hr k hk;omega)⟩
set_option maxRecDepth 100000 in
set_option maxHeartbeats 8000000 in
theorem one_step {num val:ByteArray → Int × Bool} {P:Lx.Tok → Prop} {w0:World} {dv:Value} {og:Nat}:OneStep num val P w0 dv og:=by
  intro m IH w S T v hf h
  have HLEN:=mkA h.2.2
  cases m with
  | zero=>unfold Lx.oneF at hf;cases hf
  | succ m =>
  unfold Lx.oneF at hf
  obtain ⟨x,hx⟩:∃ x,w0.heap.size=x:=⟨_,rfl⟩
  have HX:=mkA hx
  have HEV:=mkA h
  have HIH:=mkA IH
  have HF:=mkA hf
  have HIS:=mkA (show ∀ W S' (g:List UInt8) (gb:ByteArray),gb.toList=g → EVP P w0 W dv (ovOf og) S' → Calls Tryz.prog 86 #[.pointer (some ⟨x,0,none⟩),.string gb] W fun e w'=>e=.returned (.bool (Lx.isS S' g))∧EVP P w0 w' dv (ovOf og) (if Lx.isS S' g=true then S'.tl else S')∧W.grownBy w' (some x) from fun W S' g gb hg h=>by
    have:=is_callsP w0 W dv (ovOf og) S' g gb hg h
    rw [hx] at this
    exact this)
  obtain ⟨lv0,hx1,-,-⟩:=h.1
  rw [hx] at hx1 ⊢
  have hxl:=blk_lt hx1
  obtain ⟨base,hbase⟩:∃ base,w.heap.size=base:=⟨_,rfl⟩
  have HBASE:=mkA hbase
  have hxb:x < base:=by omega
  clear hf h IH hx hx1 hbase
  refine calls_of_wp_marks Tryz.func83 rfl ?_
  simp only [Tryz.ntmps83,List.size_toArray,List.length_cons,List.length_nil,Nat.reduceAdd,Nat.reduceSub,Array.replicate_succ,Array.replicate_zero,List.push_toArray,List.append_toArray,List.nil_append,List.cons_append]
  go_wp2_with fail
  go_loopg [3] S.l.length (fun kq v3 W => ∃ (done:List ByteArray) (U:Lx.ES),Aside0 (Lx.signsOf S.l=done ++ Lx.signsOf U.l∧Lx.afterSigns S.l=Lx.afterSigns U.l∧U.bad=S.bad∧kq=U.l.length∧done.length + U.l.length=S.l.length)∧Aside0 (W.ownsRow base 9 1 v3 done.length (done.map .string))∧Aside0 (EVP P w0 W dv (ovOf og) U)∧Aside0 (w.grownBy W (some x)))
  case atStart=>exact ⟨[],S,⟨rfl,rfl,rfl,rfl,by simp⟩,⟨own_nil _ _ _ _⟩,HEV,⟨World.grownBy.refl _ _⟩⟩
  case round =>
    obtain ⟨done,U,HK,HO,HU,HW⟩:=hrel
    obtain ⟨A3,c3,rfl⟩:=own_slice HO.out
    obtain ⟨n,hn⟩:∃ n,done.length=n:=⟨_,rfl⟩
    have HN:=mkA hn
    rw [hn] at HO ⊢
    clear hn
    have hUW:=HU.out.grown (World.grownBy_alloc wr (.cells #[.string ⟨#[33]⟩,.string ⟨#[45]⟩,.string ⟨#[43]⟩] 9) none)
    have HUW:=mkA hUW
    cases h1:Lx.isS U [33]
    · cases h2:Lx.isS U [45]
      · cases h3:Lx.isS U [43]
        · have k1:=is_no w0 _ dv (ovOf og) U [33] ⟨#[33]⟩ (by rw [ByteArray.toList_eq]) hUW.1 h1
          have k2:=is_no w0 _ dv (ovOf og) U [45] ⟨#[45]⟩ (by rw [ByteArray.toList_eq]) hUW.1 h2
          have k3:=is_no w0 _ dv (ovOf og) U [43] ⟨#[43]⟩ (by rw [ByteArray.toList_eq]) hUW.1 h3
          rw [HX.out] at k1 k2 k3
          have K1:=mkA k1
          have K2:=mkA k2
          have K3:=mkA k3
          have HST:=mkA (Lx.signs_stop U.l U.bad h1 h2 h3)
          clear hUW k1 k2 k3 h1 h2 h3
          go_wp2_with fail
          refine wp_loop_rounds 4 ?_
          rw [rounds_succ]
          go_wp2_with (first | (go_at_call 86;(with_reducible refine K1.out.mono ?_);rintro e w' ⟨rfl,rfl⟩))
          rw [rounds_succ]
          go_wp2_with (first | (go_at_call 86;(with_reducible refine K2.out.mono ?_);rintro e w' ⟨rfl,rfl⟩))
          rw [rounds_succ]
          go_wp2_with (first | (go_at_call 86;(with_reducible refine K3.out.mono ?_);rintro e w' ⟨rfl,rfl⟩))
          have hfm:=HF.out
          rw [HK.out.2.1,HST.out.2,← HK.out.2.2.1] at hfm
          cases hop:Lx.operF num val m ⟨U.l,U.bad⟩ with
          | none=>rw [hop] at hfm;cases hfm
          | some q =>
          obtain ⟨v1,T1⟩:=q
          rw [hop] at hfm
          dsimp only at hfm
          have HFM:=mkA hfm
          have hor:=HIH.out m (by omega) _ ⟨U.l,U.bad⟩ T1 v1 hop HUW.out
          rw [HX.out] at hor
          have HOR:=mkA hor
          clear hfm hop hor
          rw [rounds_succ]
          go_wp2_with (first | (go_at_call 100;(with_reducible refine HOR.out.mono ?_);rintro e w5 ⟨rfl,hev,hg⟩;have HE5:=mkA hev;have HG5:=mkA hg;have ho5:=(HO.out.alloc (.cells #[.string ⟨#[33]⟩,.string ⟨#[45]⟩,.string ⟨#[43]⟩] 9)).kept hg (.inr (own_ne_of HO.out hxb));have HO5:=mkA ho5;clear hev hg ho5) | go_in)
          have hrow7:=(HO5.out.alloc (.cells #[.int .i64 v1] 2)).alloc (.cells #[.slice A3 n c3] 62)
          have hvb:=((World.grownBy_alloc (w5.alloc (.cells #[.int .i64 v1] 2)) (.cells #[.slice A3 n c3] 62) none).block w5.heap.size (by simp) (by simp)).trans (blk_new w5 (.cells #[.int .i64 v1] 2))
          have hsb:=blk_new (w5.alloc (.cells #[.int .i64 v1] 2)) (.cells #[.slice A3 n c3] 62)
          rw [World.size_alloc] at hsb
          have hb7:Below w5.heap.size w5 ((w5.alloc (.cells #[.int .i64 v1] 2)).alloc (.cells #[.slice A3 n c3] 62)):=((Below.refl _ _).alloc (Nat.le_refl _) _).alloc (by simp) _
          have hs7:((w5.alloc (.cells #[.int .i64 v1] 2)).alloc (.cells #[.slice A3 n c3] 62)).heap.size=w5.heap.size + 2:=by simp
          have hn6:n ≤ 1000000:=by have h9:=HK.out.2.2.2.2;have h8:=HLEN.out;have h7:=HN.out;omega
          refine (wpIn_wide (n:=8)).1 ?_
          obtain ⟨w7,hw7⟩:∃ w7,((w5.alloc (.cells #[.int .i64 v1] 2)).alloc (.cells #[.slice A3 n c3] 62))=w7:=⟨_,rfl⟩
          rw [hw7] at hrow7 hvb hsb hb7 hs7 ⊢
          clear hw7
          obtain ⟨q,hql,hqv,hqa⟩:=signs_at HN.out HO5.out hrow7 hs7
          have HB7:=mkA hb7
          have HS7:=mkA hs7
          clear hb7
          refine wpIn_rangeFunc_ownF (F:=Fence.wide) (n:=8) rfl (by decide) (gf:=140) (lb:=#[.pointer (some ⟨w5.heap.size + 1,0,none⟩)]) rfl trivial (enters_of Tryz.func140 (by kernel_rfl) rfl)
            (back_stops Fence.wide 7 trivial rfl (by decide) (w5.heap.size + 1) q n c3 A3 done HN.out hn6 w7 (by omega) (by rw [blk_cell hsb];rfl) hqa) KeepTwo.trans (KeepTwo.put (by omega) hql) (Below.refl _ _) (fun _=>rfl)
            (fun pre W=>(W.cell? ⟨w5.heap.size,0,none⟩=some (.int .i64 (pre.foldl (fun v x=>Lx.signed1 x.2 v) v1))∧W.frozen? ⟨w5.heap.size,0,none⟩=false)∧Below w5.heap.size w7 W)
            (fun _ _ _=>False)
            (OwnFrom.and (Own.from (fun s A B row hs hg hr=>⟨cell_kept hs.1 hg hr,(frozen_kept hs.1 hg hr).trans hs.2⟩) _) (ownFrom_below (by omega) (by omega)))
            (fun _ _ _ _ _ hs _ _=>hs)
            ⟨⟨by rw [blk_cell hvb];rfl,blk_frozen hvb 0⟩,Below.refl _ _⟩
            (fun y => { tmps:=#[Value.pointer (some { block:=x,off:=0 }),undef,Value.int IntKind.i64 0,Value.slice A3 n c3,Value.int IntKind.i64 ↑n,undef,Value.string { data:=#[43] },Value.pointer (some { block:=w5.heap.size,off:=0 }),undef,Value.string y.2,Value.slice A3 n c3,Value.int IntKind.i64 ↑n,Value.slice (some { block:=wr.heap.size,off:=0 }) 3 3,Value.int IntKind.i64 3,Value.int IntKind.i64 3,Value.bool false,Value.pointer (some { block:=wr.heap.size,off:=2 }),Value.string { data:=#[43] },Value.pointer (some { block:=x,off:=0 }),Value.string { data:=#[43] },Value.bool false,u21,u22,u23,u24,Value.int IntKind.i64 3,Value.slice A3 n c3,Value.int IntKind.i64 ↑n,Value.int IntKind.i64 ↑n,Value.bool true,Value.pointer (some { block:=x,off:=0 }),Value.int IntKind.i64 v1,Value.slice A3 n c3,Value.func (Fn.func 140) #[] #[Value.pointer (some { block:=w5.heap.size + 1,off:=0 })],Value.int IntKind.i64 (y.1:Int),Value.string y.2,undef,undef,undef,undef,undef,undef,undef,undef,undef,undef,undef],defers:=[] }) ?assign ?body ?done ?stop
          case assign =>
            intro l y W K hK
            gi_wp2
            exact hK
          case body =>
            rintro l pre ⟨j,sg⟩ W ⟨⟨hc,hf⟩,hbl⟩ _
            obtain ⟨vv,hvv⟩:∃ vv,pre.foldl (fun v x=>Lx.signed1 x.2 v) v1=vv:=⟨_,rfl⟩
            rw [hvv] at hc
            have HVV:=mkA hvv
            have HBL:=mkA hbl
            have HF0:=hf
            obtain ⟨a,ha⟩:∃ a,(sg.toList == [33])=a:=⟨_,rfl⟩
            obtain ⟨b,hb⟩:∃ b,(sg.toList == [45])=b:=⟨_,rfl⟩
            have HS1:=mkA (show Lx.signed1 sg vv=if a=true then Lx.bit (vv == 0) else if b=true then Lx.w64 (-vv) else vv by unfold Lx.signed1;rw [ha,hb])
            clear hvv hbl hqa hsb hvb hrow7
            cases a <;> cases b
            all_goals
              gi_wp2_with (refine ⟨trivial,?_⟩;gi_at_call 69;refine (CallsIn.inRound l (callsIn_wide.2 (bit_calls _ W))).mono ?_;rintro e w' ⟨rfl,rfl⟩)
            all_goals
              refine ⟨?_,?_,⟨?_,?_⟩,?_⟩
              · first | exact KeepsOthers.refl _ | exact KeepsOthers.setCell _ _ _
              · first | exact KeepTwo.refl _ _ _ | exact ⟨Below.heap_setCell _ _ _ _ (by dsimp only;omega),Below.heap_setCell _ _ _ _ (by dsimp only;omega)⟩
              · rw [List.foldl_append,HVV.out]
                show _=some (Value.int .i64 (Lx.signed1 sg vv))
                rw [HS1.out]
                first | exact hc | exact World.cell?_setCell_same' _ _ _ (by rw [hc];rfl)
              · first | exact hf | (rw [World.frozen?_setCell];exact hf)
              · first | exact HBL.out | exact HBL.out.setCell (p:=⟨w5.heap.size,0,none⟩) (Nat.le_refl _) _
          case done =>
            rintro D ys W hD rfl ⟨⟨hc,hf⟩,hbl⟩ hK
            rw [← HN.out,down_fold] at hc
            obtain ⟨vf,hvf⟩:∃ vf,Lx.signed done v1=vf:=⟨_,rfl⟩
            rw [hvf] at hc
            have HVF:=mkA hvf
            have HBL:=mkA hbl
            have HK5:=mkA hK
            clear hvf hbl hqa hsb hvb hrow7 hK
            go_wp2_with fail
            refine ⟨by simp,.inl ⟨_,_,rfl,run_takeDeferred HK5.out,?_⟩⟩
            have hbW:Below w5.heap.size w5 (W.putObj D (.deferred none)):=(HB7.out.trans HBL.out).trans ((Below.refl _ W).grown (grownBy_putObj' W D _) (by have:=HB7.out.size;have:=HBL.out.size;omega) (fun k e=>by cases e;have:=HS7.out;omega))
            have hgW:=grown_below (World.grownBy.refl w5 none) hbW
            have hfm:=HFM.out
            rw [HK.out.1,HST.out.1,List.append_nil,HVF.out] at hfm
            cases hfm
            exact ⟨_,results_tmp rfl _ _ _,rfl,HE5.out.grown hgW,grown_trans (grown_trans HW.out (grown_trans (World.grownBy_alloc _ _ _) HG5.out)) (grown_any hgW)⟩
          case stop =>
            rintro D c pre W _ _ h _
            exact h.elim
        · have k1:=is_no w0 _ dv (ovOf og) U [33] ⟨#[33]⟩ (by rw [ByteArray.toList_eq]) hUW.1 h1
          have k2:=is_no w0 _ dv (ovOf og) U [45] ⟨#[45]⟩ (by rw [ByteArray.toList_eq]) hUW.1 h2
          rw [HX.out] at k1 k2
          have K1:=mkA k1
          have K2:=mkA k2
          clear k1 k2 h1 h2
          obtain ⟨t,r,hl,hsg,htt⟩:=Lx.sign_came U.l U.bad [43] (by simp) h3
          have hbt:=bytes_toList htt
          have ky:=HIS.out _ U [43] ⟨#[43]⟩ (by rw [ByteArray.toList_eq]) hUW
          rw [h3] at ky
          have KY:=mkA ky
          have HL:=mkA hl
          have HBT:=mkA hbt
          have HSC:=mkA (Lx.signs_cons t r hsg)
          have hnn:n ≤ 100000:=by have h9:=HK.out.2.2.2.2;have h8:=HLEN.out;have h7:=HN.out;omega
          clear hUW ky hl hsg htt hbt h3
          go_wp2_with fail
          refine wp_loop_rounds 4 ?_
          rw [rounds_succ]
          go_wp2_with (first | (go_at_call 86;(with_reducible refine K1.out.mono ?_);rintro e w' ⟨rfl,rfl⟩))
          rw [rounds_succ]
          go_wp2_with (first | (go_at_call 86;(with_reducible refine K2.out.mono ?_);rintro e w' ⟨rfl,rfl⟩))
          rw [rounds_succ]
          go_wp2_with (first | (go_at_call 86;(with_reducible refine KY.out.mono ?_);rintro e w5 ⟨rfl,hev,hg⟩;have ho5:=(HO.out.alloc (.cells #[.string ⟨#[33]⟩,.string ⟨#[45]⟩,.string ⟨#[43]⟩] 9)).kept hg (.inr (own_ne_of HO.out hxb));have HO5:=mkA ho5;have hsz5:base ≤ w5.heap.size:=(by have h1:=HW.out.size;have h2:=HBASE.out;have h3:=hg.size;simp at h3;omega);have HE5:=mkA hev;have HG5:=mkA hg;clear hev hg ho5) | (at_builtin;refine print_append_cells (w0:=w5) (W:=w5) base rfl (.tmp 21) (.tmp 23) 62 9 (.string ⟨#[]⟩) 1 16 rfl Tryz.underlying62 info9 rfl (by decide) (by decide) (.slice A3 n c3) n (done.map .string) [.string ⟨#[43]⟩] (by rfl) (by simp [Act.eval]) rfl (by simp [Value.oneCell']) HO5.out (Below.refl _ _) hsz5 (by omega) ?_;intro v6 w6 hv6 hb6 hg6 hat6;obtain ⟨g6,cp6,hve,hg6b,-⟩:=hv6.form (by omega);subst hve;have HV6:=mkA hv6;have HG6:=mkA hg6;clear hv6 hb6 hg6 hat6))
          go_roundg r.length
          case measure=>have h9:=HK.out.2.2.2.1;rw [HL.out] at h9;simp only [List.length_cons] at h9;omega
          case rel =>
            have htl:U.tl.l=r:=by unfold Lx.ES.tl;rw [HL.out];rfl
            have hrow:∀ b,Value.ownBlock (.slice A3 n c3)=some b → base ≤ b:=fun b hb=>own_base HO5.out b hb
            have hbw:w.heap.size=base:=HBASE.out
            refine ⟨done ++ [t.t],U.tl,⟨?_,?_,HK.out.2.2.1,by rw [htl],?_⟩,⟨?_⟩,⟨⟨HE5.out.1.row HG6.out (fun b hb=>by have:=hrow b hb;rw [HX.out];omega),HE5.out.2⟩⟩,⟨grown_new_row (grown_trans HW.out (grown_trans (World.grownBy_alloc _ _ _) HG5.out)) HG6.out (fun b hb=>by rw [hbw];exact hrow b hb)⟩⟩
            · rw [HK.out.1,htl,HL.out,HSC.out.1,List.append_assoc];rfl
            · rw [HK.out.2.1,htl,HL.out,HSC.out.2]
            · rw [htl,List.length_append,List.length_singleton]
              have h9:=HK.out.2.2.2.2
              rw [HL.out] at h9
              simp only [List.length_cons] at h9
              omega
            · rw [List.length_append,List.length_singleton,HN.out,List.map_append,HBT.out]
              exact HV6.out
      · have k1:=is_no w0 _ dv (ovOf og) U [33] ⟨#[33]⟩ (by rw [ByteArray.toList_eq]) hUW.1 h1
        rw [HX.out] at k1
        have K1:=mkA k1
        clear k1 h1
        obtain ⟨t,r,hl,hsg,htt⟩:=Lx.sign_came U.l U.bad [45] (by simp) h2
        have hbt:=bytes_toList htt
        have ky:=HIS.out _ U [45] ⟨#[45]⟩ (by rw [ByteArray.toList_eq]) hUW
        rw [h2] at ky
        have KY:=mkA ky
        have HL:=mkA hl
        have HBT:=mkA hbt
        have HSC:=mkA (Lx.signs_cons t r hsg)
        have hnn:n ≤ 100000:=by have h9:=HK.out.2.2.2.2;have h8:=HLEN.out;have h7:=HN.out;omega
        clear hUW ky hl hsg htt hbt h2
        go_wp2_with fail
        refine wp_loop_rounds 4 ?_
        rw [rounds_succ]
        go_wp2_with (first | (go_at_call 86;(with_reducible refine K1.out.mono ?_);rintro e w' ⟨rfl,rfl⟩))
        rw [rounds_succ]
        go_wp2_with (first | (go_at_call 86;(with_reducible refine KY.out.mono ?_);rintro e w5 ⟨rfl,hev,hg⟩;have ho5:=(HO.out.alloc (.cells #[.string ⟨#[33]⟩,.string ⟨#[45]⟩,.string ⟨#[43]⟩] 9)).kept hg (.inr (own_ne_of HO.out hxb));have HO5:=mkA ho5;have hsz5:base ≤ w5.heap.size:=(by have h1:=HW.out.size;have h2:=HBASE.out;have h3:=hg.size;simp at h3;omega);have HE5:=mkA hev;have HG5:=mkA hg;clear hev hg ho5) | (at_builtin;refine print_append_cells (w0:=w5) (W:=w5) base rfl (.tmp 21) (.tmp 23) 62 9 (.string ⟨#[]⟩) 1 16 rfl Tryz.underlying62 info9 rfl (by decide) (by decide) (.slice A3 n c3) n (done.map .string) [.string ⟨#[45]⟩] (by rfl) (by simp [Act.eval]) rfl (by simp [Value.oneCell']) HO5.out (Below.refl _ _) hsz5 (by omega) ?_;intro v6 w6 hv6 hb6 hg6 hat6;obtain ⟨g6,cp6,hve,hg6b,-⟩:=hv6.form (by omega);subst hve;have HV6:=mkA hv6;have HG6:=mkA hg6;clear hv6 hb6 hg6 hat6))
        go_roundg r.length
        case measure=>have h9:=HK.out.2.2.2.1;rw [HL.out] at h9;simp only [List.length_cons] at h9;omega
        case rel =>
          have htl:U.tl.l=r:=by unfold Lx.ES.tl;rw [HL.out];rfl
          have hrow:∀ b,Value.ownBlock (.slice A3 n c3)=some b → base ≤ b:=fun b hb=>own_base HO5.out b hb
          have hbw:w.heap.size=base:=HBASE.out
          refine ⟨done ++ [t.t],U.tl,⟨?_,?_,HK.out.2.2.1,by rw [htl],?_⟩,⟨?_⟩,⟨⟨HE5.out.1.row HG6.out (fun b hb=>by have:=hrow b hb;rw [HX.out];omega),HE5.out.2⟩⟩,⟨grown_new_row (grown_trans HW.out (grown_trans (World.grownBy_alloc _ _ _) HG5.out)) HG6.out (fun b hb=>by rw [hbw];exact hrow b hb)⟩⟩
          · rw [HK.out.1,htl,HL.out,HSC.out.1,List.append_assoc];rfl
          · rw [HK.out.2.1,htl,HL.out,HSC.out.2]
          · rw [htl,List.length_append,List.length_singleton]
            have h9:=HK.out.2.2.2.2
            rw [HL.out] at h9
            simp only [List.length_cons] at h9
            omega
          · rw [List.length_append,List.length_singleton,HN.out,List.map_append,HBT.out]
            exact HV6.out
    · obtain ⟨t,r,hl,hsg,htt⟩:=Lx.sign_came U.l U.bad [33] (by simp) h1
      have hbt:=bytes_toList htt
      have ky:=HIS.out _ U [33] ⟨#[33]⟩ (by rw [ByteArray.toList_eq]) hUW
      rw [h1] at ky
      have KY:=mkA ky
      have HL:=mkA hl
      have HBT:=mkA hbt
      have HSC:=mkA (Lx.signs_cons t r hsg)
      have hnn:n ≤ 100000:=by have h9:=HK.out.2.2.2.2;have h8:=HLEN.out;have h7:=HN.out;omega
      clear hUW ky hl hsg htt hbt h1
      go_wp2_with fail
      refine wp_loop_rounds 4 ?_
      rw [rounds_succ]
      skip
      go_wp2_with (first | (go_at_call 86;(with_reducible refine KY.out.mono ?_);rintro e w5 ⟨rfl,hev,hg⟩;have ho5:=(HO.out.alloc (.cells #[.string ⟨#[33]⟩,.string ⟨#[45]⟩,.string ⟨#[43]⟩] 9)).kept hg (.inr (own_ne_of HO.out hxb));have HO5:=mkA ho5;have hsz5:base ≤ w5.heap.size:=(by have h1:=HW.out.size;have h2:=HBASE.out;have h3:=hg.size;simp at h3;omega);have HE5:=mkA hev;have HG5:=mkA hg;clear hev hg ho5) | (at_builtin;refine print_append_cells (w0:=w5) (W:=w5) base rfl (.tmp 21) (.tmp 23) 62 9 (.string ⟨#[]⟩) 1 16 rfl Tryz.underlying62 info9 rfl (by decide) (by decide) (.slice A3 n c3) n (done.map .string) [.string ⟨#[33]⟩] (by rfl) (by simp [Act.eval]) rfl (by simp [Value.oneCell']) HO5.out (Below.refl _ _) hsz5 (by omega) ?_;intro v6 w6 hv6 hb6 hg6 hat6;obtain ⟨g6,cp6,hve,hg6b,-⟩:=hv6.form (by omega);subst hve;have HV6:=mkA hv6;have HG6:=mkA hg6;clear hv6 hb6 hg6 hat6))
      go_roundg r.length
      case measure=>have h9:=HK.out.2.2.2.1;rw [HL.out] at h9;simp only [List.length_cons] at h9;omega
      case rel =>
        have htl:U.tl.l=r:=by unfold Lx.ES.tl;rw [HL.out];rfl
        have hrow:∀ b,Value.ownBlock (.slice A3 n c3)=some b → base ≤ b:=fun b hb=>own_base HO5.out b hb
        have hbw:w.heap.size=base:=HBASE.out
        refine ⟨done ++ [t.t],U.tl,⟨?_,?_,HK.out.2.2.1,by rw [htl],?_⟩,⟨?_⟩,⟨⟨HE5.out.1.row HG6.out (fun b hb=>by have:=hrow b hb;rw [HX.out];omega),HE5.out.2⟩⟩,⟨grown_new_row (grown_trans HW.out (grown_trans (World.grownBy_alloc _ _ _) HG5.out)) HG6.out (fun b hb=>by rw [hbw];exact hrow b hb)⟩⟩
        · rw [HK.out.1,htl,HL.out,HSC.out.1,List.append_assoc];rfl
        · rw [HK.out.2.1,htl,HL.out,HSC.out.2]
        · rw [htl,List.length_append,List.length_singleton]
          have h9:=HK.out.2.2.2.2
          rw [HL.out] at h9
          simp only [List.length_cons] at h9
          omega
        · rw [List.length_append,List.length_singleton,HN.out,List.map_append,HBT.out]
          exact HV6.out
end Go.Proofs.YtjnafjgonoficaaGreatDoor
namespace Go.Proofs.YtjnafjgonoficaaGreatDoor
open Go.RowKit Go.Proofs.YtjnafjgonoficaaGreatDoorW.PrintWords
theorem aw_scan (w:World):Calls Tryz.prog 39 #[.string ⟨#[35,105,102,32,65,10,120,10,35,101,108,115,101,10,121,10,35,101,110,100,105,102,10]⟩] w fun e w' => ∃ v,e=.returned (.tuple #[v,.int .i64 0])∧Tks w' v Lx.awL∧Below w.heap.size w w':=by
  refine (scanr_calls Lx.awText w (by decide)).mono ?_
  rintro e w' ⟨v,h1,h2,h3⟩
  exact ⟨v,h1,own_tks h2,h3⟩
theorem aw_first (v:Value) (W:World) (hT:Tks W v Lx.awL) (hW:Laid W):Calls Tryz.prog 22 #[v] W fun e w' => ∃ rv,e=.returned (.tuple #[rv,.int .i64 0])∧Ints w' rv [1,5]∧Below W.heap.size W w':=by
  have h5:=hW.size
  refine (first_calls v Lx.awL W hT (by rw [Lx.aw_len];omega) (fun t ht=>of_decide_eq_true (List.all_eq_true.1 Lx.aw_short t ht)) hW.maxLen hW.blanks (by omega) Lx.aw_err Lx.awOuts Lx.aw_places Lx.aw_small (by rw [Lx.aw_outs,Lx.aw_len]) Lx.aw_fits).mono ?_
  rintro e w' ⟨rv,h1,h2,h3⟩
  refine ⟨rv,h1,?_,h3⟩
  have h4:=own_ints h2
  rw [show (Lx.groups (Lx.awL.map Lx.kindOf)).1=Lx.awGs from rfl,Lx.aw_gs,Lx.aw_view] at h4
  exact h4
theorem aw_dfs (W:World):Dfs (W.alloc (.cells #[.string ⟨#[65]⟩,.string ⟨#[51]⟩] 71)) (.slice (some ⟨W.heap.size,0,none⟩) 1 1) Lx.awDefs:=by
  refine ⟨_,1,rfl,Nat.le_refl _,by decide,by decide,?_,.inr ⟨W.heap.size,0,rfl,by simp,?_⟩⟩
  · intro d hd
    rw [List.mem_singleton.1 hd]
    decide
  · intro i d hd
    cases i with
    | zero =>
      have hd:=(Option.some.inj hd).symm
      subst hd
      exact ⟨by rw [blk_cell (blk_new W _)];rfl,by rw [blk_cell (blk_new W _)];rfl⟩
    | succ i=>simp [Lx.awDefs] at hd
theorem aw_evals (W:World) (hW:Laid W):Calls Tryz.prog 25 #[.string ⟨#[49,32,43,32,65,32,42,32,50]⟩,.slice (some ⟨W.heap.size,0,none⟩) 1 1] (W.alloc (.cells #[.string ⟨#[65]⟩,.string ⟨#[51]⟩] 71)) fun e w'=>e=.returned (.tuple #[.int .i64 7,.bool true])∧Below W.heap.size W w':=by
  have hb1:Below W.heap.size W (W.alloc (.cells #[.string ⟨#[65]⟩,.string ⟨#[51]⟩] 71)):=(Below.refl _ _).alloc (Nat.le_refl _) _
  have hL:=hW.below hb1
  have hD:=aw_dfs W
  have h8:=hL.size
  generalize (W.alloc (.cells #[.string ⟨#[65]⟩,.string ⟨#[51]⟩] 71))=W1 at hb1 hL hD h8 ⊢
  refine (eval_from (num:=Lx.awNum) (val:=Lx.valOf Lx.awDefs) (P:=AwP) Lx.awExpr W1 60 (7,true) (by decide) hL.maxLen hL.blanks (by omega) aw_P
    (fun w0 og hb hO=>env_aw w0 _ og hO (Utf8Tabs_below hL.tabs hb) (Lib.CaseVar_below hL.case hb) (hD.below hb) (hL.errs.below hb))
    (fun w0 og hE=>(bin_all hE one_step 60).1) Lx.aw_eval).mono ?_
  rintro e w' ⟨h1,h2⟩
  exact ⟨h1,hb1.trans (h2.mono hb1.size)⟩
theorem aw_ints (W:World) (rv:Value) (h:Ints W rv [1,5]):Calls Tryz.prog 18 #[rv,.slice (some ⟨W.heap.size,0,none⟩) 2 2] (W.alloc (.cells #[.int .i64 1,.int .i64 5] 3)) fun e w'=>e=.returned (.bool true)∧Drawn0 (W.alloc (.cells #[.int .i64 1,.int .i64 5] 3)) w':=by
  refine eqInts_calls _ _ [1,5] _ (by decide) (h.below ((Below.refl _ _).alloc (Nat.le_refl _) _)) ?_
  exact own_ints (base:=W.heap.size) (World.ownsRow_lit W #[.int .i64 1,.int .i64 5] 2 (Nat.le_refl _) (by unfold maxLen;omega) rfl)
set_option maxRecDepth 100000 in
set_option maxHeartbeats 4000000 in
theorem aw_calls:AwC:=by
  intro w h
  have HL:=mkA h
  have HSC:=mkA (aw_scan w)
  have HFC:=mkA aw_first
  have HEC:=mkA aw_evals
  have HIC:=mkA aw_ints
  clear h
  go_enter Tryz.func19,Tryz.ntmps19
  go_wp2_with (first | (go_at_call 39;(with_reducible refine HSC.out.mono ?_);rintro e w1 ⟨v1,rfl,ht,hb⟩;have HT1:=mkA ht;have HB1:=mkA hb;clear ht hb) | (go_at_call 22;(refine (HFC.out _ w1 HT1.out (HL.out.below HB1.out)).mono ?_);rintro e w2 ⟨rv,rfl,hi,hb⟩;have HB2:=mkA (HB1.out.trans (hb.mono HB1.out.size));have HI2:=mkA hi;clear hi hb) | (go_at_call 25;(refine (HEC.out w2 (HL.out.below HB2.out)).mono ?_);rintro e w3 ⟨rfl,hb⟩;have HI3:=mkA (HI2.out.below hb);have HB3:=mkA (HB2.out.trans (hb.mono HB2.out.size));clear hb) | (go_at_call 18;(refine (HIC.out w3 rv HI3.out).mono ?_);rintro e w4 ⟨rfl,hd⟩;have HB4:=mkA ((HB3.out.alloc HB3.out.size _).trans ((below_drawn hd).mono (Nat.le_trans HB3.out.size (by simp))));clear hd))
  go_ret
  exact ⟨rfl,HB4.out⟩
namespace Lx
def numB (b:ByteArray):Int × Bool:=progNum b.data.toList
theorem worth_in (s:ByteArray):InI (worth s):=by
  unfold worth
  split
  · rename_i v h
    have:=Lib.parseIntB_bounds h
    unfold InI
    simp at this
    omega
  · unfold InI;omega
theorem valOf_in (defs:List (ByteArray × ByteArray)) (b:ByteArray):InI (valOf defs b).1:=by
  unfold valOf
  split
  · unfold InI;dsimp only;omega
  · split
    · unfold InI;dsimp only;omega
    · exact worth_in _
noncomputable def exprV (defs:List (ByteArray × ByteArray)) (s:ByteArray):Int × Bool:=evR numB (valOf defs) (wd s 0)
end Lx
theorem env_any (w0:World) (dv:Value) (og N:Nat) (hN:N ≤ 100000) (defs:List (ByteArray × ByteArray)) (hO:OpsAt w0 og) (hT:Lib.Utf8Tabs 6 7 w0) (hV:Lib.CaseVar 5 Lib.caseA w0) (hD:Dfs w0 dv defs) (hE:Errs w0):EnvC Lx.numB (Lx.valOf defs) (fun t=>Lx.OkKT N t.k t.t) w0 dv og:=by
  refine ⟨hO,?_,?_⟩
  · intro t hP hk w hb
    refine (numbers_any t.t w (hP.num hk).2 (Nat.le_trans hP.size hN) (Utf8Tabs_below hT hb) (Lib.CaseVar_below hV hb)).mono ?_
    rintro e w' ⟨rfl,h2⟩
    exact ⟨rfl,grown_below (World.grownBy.refl _ _) h2⟩
  · intro t hP hk w hb
    exact value_calls w dv defs t.t (hD.below hb) (hE.below hb)
theorem eval_any (s:ByteArray) (defs:List (ByteArray × ByteArray)) (dv:Value) (w:World) (hs:s.size ≤ 20000) (hL:Laid w) (hD:Dfs w dv defs) :
    Calls Tryz.prog 25 #[.string s,dv] w fun e w'=>e=.returned (.tuple #[.int .i64 (Lx.exprV defs s).1,.bool (Lx.exprV defs s).2])∧Below w.heap.size w w':=by
  obtain ⟨m,hm⟩:=Lx.evR_spec Lx.numB (Lx.valOf defs) (Lx.wd s 0)
  have hD':=hD
  obtain ⟨DA,DC,rfl,-⟩:=hD'
  exact eval_from (num:=Lx.numB) (val:=Lx.valOf defs) (P:=fun t=>Lx.OkKT (s.size + 1) t.k t.t) s w m _ hs hL.maxLen hL.blanks (by have:=hL.size;omega) (Lx.wd_ok s 0)
    (fun w0 og hb hO=>env_any w0 _ og _ (by omega) defs hO (Utf8Tabs_below hL.tabs hb) (Lib.CaseVar_below hL.case hb) (hD.below hb) (hL.errs.below hb))
    (fun w0 og hE=>(bin_all hE one_step m).1) hm
theorem envR_any (w0:World) (A:Option Addr) (n c:Nat) (dv:Value) (L:List Lx.Tok) (N:Nat) (hN:N ≤ 100000) (hL:∀ t ∈ L,Lx.OkKT N t.k t.t) (defs:List (ByteArray × ByteArray)) (hD:Dfs w0 dv defs):EnvR Lx.numB (Lx.valOf defs) (fun t=>Lx.OkKT N t.k t.t) w0 A n c dv L:=by
  refine ⟨?_,?_,hL,?_⟩
  · intro t hP hk w hb
    have hne:=(hP.num hk).1
    have hsz:0 < t.t.size:=by
      rw [← Lx.list_size];exact List.length_pos_iff.2 hne
    refine (refnum_calls t.t w (Nat.le_trans hP.size hN) hsz).mono ?_
    rintro e w' ⟨rfl,h2⟩
    have h3:=Lx.num_same t.t.data.toList hne
    refine ⟨(Lx.refNum t.t.data.toList).1,?_,fun h=>h3.2 h,h2⟩
    rw [h3.1];rfl
  · intro b S w h
    exact refval_calls w0 w A n c dv L S defs b h hD
  · intro t hP h
    exact hP.word (by rw [← ByteArray.toList_eq];exact h)
theorem numB_in (b:ByteArray):InI (Lx.numB b).1:=Lx.prog_in _
theorem refeval_any (w:World) (A:Option Addr) (n c:Nat) (dv:Value) (L:List Lx.Tok) (defs:List (ByteArray × ByteArray)) (N:Nat) (hN:N ≤ 100000) (hT:Tks w (.slice A n c) L) (hn:n ≤ 100000) (hL:∀ t ∈ L,Lx.OkKT N t.k t.t) (hD:Dfs w dv defs) :
    Calls Tryz.prog 52 #[.slice A n c,dv] w fun e w'=>e=.returned (.tuple #[.int .i64 (Lx.evR Lx.numB (Lx.valOf defs) L).1,.bool (Lx.evR Lx.numB (Lx.valOf defs) L).2])∧Below w.heap.size w w':=by
  obtain ⟨m,hm⟩:=Lx.evR_spec Lx.numB (Lx.valOf defs) L
  have hD':=hD
  obtain ⟨DA,DC,rfl,-⟩:=hD'
  exact refeval_calls (num:=Lx.numB) (val:=Lx.valOf defs) (P:=fun t=>Lx.OkKT N t.k t.t) w A n c DA _ DC L m _ hT hn numB_in (Lx.valOf_in defs) (envR_any w A n c _ L N hN hL defs hD) hm
namespace Lx
noncomputable def Cn.val (defs:List (ByteArray × ByteArray)):Cn → Bool
  | .expr rest _=>(exprV defs rest).1 != 0
  | .dfn name kind _=>((valOf defs name).2 && !(name.toList.isEmpty)) == (kind.toList == [105,102,100,101,102])
end Lx
set_option maxRecDepth 100000 in
theorem expr_calls (w:World) (dv:Value) (defs:List (ByteArray × ByteArray)) (b:Nat) (rest:ByteArray) (hs:rest.size ≤ 20000) (hL:Laid w) (hD:Dfs w dv defs) (hb:w.heap[b]? = some (.cells #[.string rest] 9 (0,0))) :
    Calls Tryz.prog 88 #[dv,.pointer (some ⟨b,0,none⟩)] w fun e w'=>e=.returned (.bool ((Lx.exprV defs rest).1 != 0))∧Below w.heap.size w w':=by
  have HE:=mkA (eval_any rest defs dv w hs hL hD)
  obtain ⟨DA,DC,rfl,-⟩:=hD
  have c0:w.cell? ⟨b,0,none⟩=some (.string rest):=by rw [blk_cell hb];rfl
  have hbl:=blk_lt hb
  obtain ⟨V,hV⟩:∃ V,Lx.exprV defs rest=V:=⟨_,rfl⟩
  rw [hV] at HE ⊢
  clear hb hs hL hV
  go_enter Tryz.func88,Tryz.ntmps88
  go_wp2_with (go_at_call 25;(refine HE.out.mono ?_);rintro e w1 ⟨rfl,hb⟩;have HB:=mkA hb;clear hb)
  go_ret
  exact ⟨rfl,HB.out⟩
set_option maxRecDepth 100000 in
theorem dfn_calls (w:World) (dv:Value) (defs:List (ByteArray × ByteArray)) (b c:Nat) (name kind:ByteArray) (hL:Laid w) (hD:Dfs w dv defs) (hb:w.heap[b]? = some (.cells #[.string name] 9 (0,0))) (hc:w.heap[c]? = some (.cells #[.string kind] 9 (0,0))) :
    Calls Tryz.prog 90 #[dv,.pointer (some ⟨b,0,none⟩),.pointer (some ⟨c,0,none⟩)] w fun e w'=>e=.returned (.bool (((Lx.valOf defs name).2 && !(name.toList.isEmpty)) == (kind.toList == [105,102,100,101,102])))∧Below w.heap.size w w':=by
  have HE:=mkA (value_calls w dv defs name hD hL.errs)
  obtain ⟨DA,DC,rfl,-⟩:=hD
  have c0:w.cell? ⟨b,0,none⟩=some (.string name):=by rw [blk_cell hb];rfl
  have c1:w.cell? ⟨c,0,none⟩=some (.string kind):=by rw [blk_cell hc];rfl
  have hbl:=blk_lt hb
  have hcl:=blk_lt hc
  obtain ⟨V,hV⟩:∃ V,Lx.valOf defs name=V:=⟨_,rfl⟩
  rw [hV] at HE ⊢
  obtain ⟨v1,v2⟩:=V
  dsimp only at HE ⊢
  obtain ⟨e1,he1⟩:∃ e1,name.toList.isEmpty=e1:=⟨_,rfl⟩
  obtain ⟨e2,he2⟩:∃ e2,(kind.toList == [105,102,100,101,102])=e2:=⟨_,rfl⟩
  rw [he1,he2]
  clear hb hc hL hV
  cases v2 <;> cases e1 <;> cases e2
  all_goals
    go_enter Tryz.func90,Tryz.ntmps90
    go_wp2_with (go_at_call 91;(refine HE.out.mono ?_);rintro e w1 ⟨rfl,hg⟩;have d0:=hg.cell c0 (by simp);have d1:=hg.cell c1 (by simp);have HB:=mkA ((Below.refl w.heap.size w).grown hg (Nat.le_refl _) (fun k hk=>by cases hk));clear hg)
    go_ret
    exact ⟨rfl,HB.out⟩
namespace Lx
end Lx
namespace Lx
def kAt (ks:List ByteArray) (x:Int):ByteArray:=ks.getD x.toNat ⟨#[]⟩
def Body (ks:List ByteArray) (l:List Int) (e:Bool):Prop:=∃ (x:Int) (c:List Int),opens (kAt ks x)=true∧(∀ y ∈ c,((kAt ks y).toList == sElif)=true) ∧
  ((e=false∧l=x :: c) ∨ (e=true∧∃ y,((kAt ks y).toList == sElse)=true∧l=x :: c ++ [y]))
def Shut (ks:List ByteArray) (g:G):Prop:=∃ (x:Int) (c:List Int) (z:Int),opens (kAt ks x)=true∧(∀ y ∈ c,((kAt ks y).toList == sElif)=true)∧((kAt ks z).toList == sEndif)=true∧g.br=(c.length:Int) + 2 ∧
  (g.lines=x :: c ++ [z] ∨ ∃ y,((kAt ks y).toList == sElse)=true∧g.lines=x :: c ++ [y,z])
structure Frm (ks:List ByteArray) (S:GS) (i:Nat):Prop where
  body:∀ p ∈ S.st,∀ g,S.gs[p.1]? = some g → Body ks g.lines p.2.2
  shut:∀ (j:Nat) (g:G),S.gs[j]? = some g → (∃ p ∈ S.st,p.1=j) ∨ Shut ks g
  cov:∀ j:Nat,j < i → (opens (kAt ks j)=true ∨ ((kAt ks j).toList == sElif)=true) → ∃ g ∈ S.gs,(j:Int) ∈ g.lines
theorem mod_at (l:List G) (n:Nat) (F:G → G) (g:G) (h:l[n]? = some g):(l.modify n F)[n]? = some (F g):=by
  rw [List.getElem?_modify,h];simp
theorem mod_ne (l:List G) (n j:Nat) (F:G → G) (h:n ≠ j):(l.modify n F)[j]? = l[j]?:=by
  rw [List.getElem?_modify]
  cases l[j]? <;> simp [h]
theorem frm0 (ks:List ByteArray):Frm ks gs0 0:=⟨by simp [gs0],by simp [gs0],fun j h=>absurd h (Nat.not_lt_zero j)⟩
theorem frm_step (ks:List ByteArray) (S T:GS) (i:Nat) (hg:Good S) (h:gstep 0 S (kAt ks i) i=some T) (hF:Frm ks S i):Frm ks T (i + 1):=by
  have hcov:∀ (n:Nat) (F:G → G),(∀ g,(F g).lines=g.lines ++ [(i:Int)]) → n < S.gs.length → ∀ j:Nat,j < i + 1 → (opens (kAt ks j)=true ∨ ((kAt ks j).toList == sElif)=true) → ∃ g ∈ S.gs.modify n F,(j:Int) ∈ g.lines:=by
    intro n F hFl hn j hj hk
    by_cases e:j=i
    · subst e
      refine ⟨F S.gs[n],List.mem_iff_getElem?.2 ⟨n,mod_at _ _ _ _ (List.getElem?_eq_getElem hn)⟩,by rw [hFl];simp⟩
    · obtain ⟨g,h1,h2⟩:=hF.cov j (by omega) hk
      obtain ⟨m,hm⟩:=List.mem_iff_getElem?.1 h1
      refine ⟨if n=m then F g else g,List.mem_iff_getElem?.2 ⟨m,by rw [List.getElem?_modify,hm];by_cases e:n=m <;> simp [e]⟩,?_⟩
      split
      · rw [hFl];exact List.mem_append_left _ h2
      · exact h2
  unfold gstep at h
  by_cases ho:opens (kAt ks i)=true
  · rw [if_pos ho] at h
    have key:∃ g0:G,g0.lines=[(i:Int)]∧T=⟨S.gs ++ [g0],(S.gs.length,0,false) :: S.st⟩:=by
      rcases hs:S.st with _ | ⟨⟨n,b,e⟩,r⟩
      · rw [hs] at h;cases h;exact ⟨_,rfl,rfl⟩
      · rw [hs] at h;cases h;exact ⟨_,rfl,rfl⟩
    obtain ⟨g0,hg0,rfl⟩:=key
    refine ⟨?_,?_,?_⟩
    · intro p hp g hgg
      rcases List.mem_cons.1 hp with rfl | hp
      · dsimp only at hgg ⊢
        rw [List.getElem?_append_right (Nat.le_refl _),Nat.sub_self] at hgg
        simp at hgg
        subst hgg
        exact ⟨i,[],ho,by simp,.inl ⟨rfl,hg0⟩⟩
      · dsimp only at hgg
        rw [List.getElem?_append_left (hg.lt p hp)] at hgg
        exact hF.body p hp g hgg
    · intro j g hgg
      dsimp only at hgg ⊢
      by_cases hj:j < S.gs.length
      · rw [List.getElem?_append_left hj] at hgg
        rcases hF.shut j g hgg with ⟨p,hp,e⟩ | h1
        · exact .inl ⟨p,List.mem_cons_of_mem _ hp,e⟩
        · exact .inr h1
      · have hl:=(List.getElem?_eq_some_iff.1 hgg).1
        rw [List.length_append,List.length_singleton] at hl
        exact .inl ⟨_,List.mem_cons_self,by dsimp only;omega⟩
    · intro j hj hk
      by_cases e:j=i
      · subst e;exact ⟨g0,by simp,by rw [hg0];simp⟩
      · obtain ⟨g,h1,h2⟩:=hF.cov j (by omega) hk
        exact ⟨g,List.mem_append_left _ h1,h2⟩
  · rw [if_neg ho] at h
    by_cases hc:closes (kAt ks i)=true
    · rw [if_pos hc] at h
      rcases hs:S.st with _ | ⟨⟨n,b,e⟩,r⟩
      · rw [hs] at h;cases h
      · rw [hs] at h
        dsimp only at h
        have hn:n < S.gs.length:=hg.lt (n,b,e) (by rw [hs];exact List.mem_cons_self)
        have hd:=hg.desc
        rw [hs] at hd
        have hd1:=(List.pairwise_cons.1 hd).1
        have hbn:=hF.body (n,b,e) (by rw [hs];exact List.mem_cons_self) S.gs[n] (List.getElem?_eq_getElem hn)
        have hrest:∀ (F:G → G),∀ p ∈ r,∀ g,(S.gs.modify n F)[p.1]? = some g → Body ks g.lines p.2.2:=by
          intro F p hp g hgg
          have:=hd1 p hp
          dsimp only at this
          rw [mod_ne _ _ _ _ (by omega)] at hgg
          exact hF.body p (by rw [hs];exact List.mem_cons_of_mem _ hp) g hgg
        have hshut:∀ (F:G → G) (st:List (Nat × Nat × Bool)),(∀ p ∈ r,p ∈ st) → ((∃ p ∈ st,p.1=n) ∨ Shut ks (F S.gs[n])) → ∀ (j:Nat) (g:G),(S.gs.modify n F)[j]? = some g → (∃ p ∈ st,p.1=j) ∨ Shut ks g:=by
          intro F st hst hnn j g hgg
          by_cases e:n=j
          · subst e
            rw [mod_at _ _ _ _ (List.getElem?_eq_getElem hn)] at hgg
            obtain rfl:=Option.some.inj hgg
            exact hnn
          · rw [mod_ne _ _ _ _ e] at hgg
            rcases hF.shut j g hgg with ⟨p,hp,e2⟩ | h1
            · rw [hs] at hp
              rcases List.mem_cons.1 hp with rfl | hp
              · exact absurd e2 e
              · exact .inl ⟨p,hst p hp,e2⟩
            · exact .inr h1
        split at h
        · cases h
        · rename_i h5
          split at h
          · rename_i h6
            cases h
            refine ⟨hrest _,hshut _ r (fun p hp=>hp) (.inr ?_),hcov n _ (fun g=>rfl) hn⟩
            obtain ⟨x,c,b1,b2,b3⟩:=hbn
            dsimp only at b3 ⊢
            rcases b3 with ⟨rfl,e2⟩ | ⟨rfl,y,hy,e2⟩
            · refine ⟨x,c,i,b1,b2,h6,?_,.inl ?_⟩
              · dsimp only;rw [e2];simp;omega
              · dsimp only;rw [e2]
            · refine ⟨x,c,i,b1,b2,h6,?_,.inr ⟨y,hy,?_⟩⟩
              · dsimp only;rw [e2];simp;omega
              · dsimp only;rw [e2];simp
          · rename_i h6
            cases h
            have he:e=false:=by
              cases e
              · rfl
              · exfalso;apply h5;rw [Bool.true_and,Bool.not_eq_true'];exact Bool.eq_false_iff.2 h6
            subst he
            refine ⟨?_,hshut _ _ (fun p hp=>List.mem_cons_of_mem _ hp) (.inl ⟨_,List.mem_cons_self,rfl⟩),hcov n _ (fun g=>rfl) hn⟩
            intro p hp g hgg
            rcases List.mem_cons.1 hp with rfl | hp
            · dsimp only at hgg ⊢
              rw [mod_at _ _ _ _ (List.getElem?_eq_getElem hn)] at hgg
              obtain rfl:=Option.some.inj hgg
              obtain ⟨x,c,b1,b2,b3⟩:=hbn
              dsimp only at b3 ⊢
              rcases b3 with ⟨-,e2⟩ | ⟨e1,-⟩
              · rw [e2]
                cases h7:((kAt ks i).toList == sElse)
                · have h8:((kAt ks i).toList == sElif)=true:=by
                    unfold closes at hc
                    rw [h7,Bool.eq_false_iff.2 h6,Bool.or_false,Bool.or_false] at hc
                    exact hc
                  exact ⟨x,c ++ [(i:Int)],b1,fun y hy=>(List.mem_append.1 hy).elim (b2 y) (fun hy=>by rw [List.mem_singleton.1 hy];exact h8),.inl ⟨rfl,rfl⟩⟩
                · exact ⟨x,c,b1,b2,.inr ⟨rfl,i,h7,rfl⟩⟩
              · cases e1
            · exact hrest _ p hp g hgg
    · rw [if_neg hc] at h
      cases h
      refine ⟨hF.body,hF.shut,?_⟩
      intro j hj hk
      by_cases e:j=i
      · subst e
        rcases hk with hk | hk
        · exact absurd hk ho
        · exfalso;apply hc;unfold closes;rw [hk];rfl
      · exact hF.cov j (by omega) hk
theorem frm_run (ks:List ByteArray):∀ (r:List ByteArray) (S T:GS) (i:Nat),grun 0 S r i=.inl T → ks.drop i=r → Good S → Frm ks S i → Frm ks T (i + r.length)∧Good T
  | [],S,T,i,h,_,hg,hF=>by unfold grun at h;cases h;exact ⟨hF,hg⟩
  | k :: r,S,T,i,h,hd,hg,hF=>by
    unfold grun at h
    have hk:kAt ks i=k:=by
      unfold kAt
      rw [Int.toNat_natCast,List.getD_eq_getElem?_getD]
      have:ks[i]? = some k:=by
        have:=List.getElem?_drop (xs:=ks) (i:=i) (j:=0)
        rw [hd] at this
        simpa using this.symm
      rw [this];rfl
    cases hgs:gstep 0 S k i with
    | none=>rw [hgs] at h;cases h
    | some U =>
      rw [hgs] at h
      have h1:=good_step 0 S U k i hgs hg
      rw [← hk] at hgs
      have h2:=frm_step ks S U i hg hgs hF
      obtain ⟨h3,h4⟩:=frm_run ks r U T (i + 1) h (by rw [← List.drop_drop,hd];rfl) h1 h2
      exact ⟨by rw [List.length_cons,show i + (r.length + 1)=i + 1 + r.length by omega];exact h3,h4⟩
theorem groups_form (ks:List ByteArray) (h:(groups ks).2.1=0):(∀ g ∈ (groups ks).1,Shut ks g)∧∀ j:Nat,j < ks.length → (opens (kAt ks j)=true ∨ ((kAt ks j).toList == sElif)=true) → ∃ g ∈ (groups ks).1,(j:Int) ∈ g.lines:=by
  unfold groups groupsC at h ⊢
  split at h
  · simp at h
  · rename_i h0
    rw [if_neg h0]
    cases hr:grun 0 gs0 ks 0 with
    | inr n=>rw [hr] at h;simp at h
    | inl S =>
      rw [hr] at h
      dsimp only at h ⊢
      obtain ⟨hF,-⟩:=frm_run ks ks gs0 S 0 hr (by simp) good0 (frm0 ks)
      split at h
      · rename_i he
        rw [if_pos he]
        dsimp only
        have hst:S.st=[]:=List.isEmpty_iff.1 he
        refine ⟨fun g hg => ?_,fun j hj hk=>hF.cov j (by omega) hk⟩
        obtain ⟨j,hj⟩:=List.mem_iff_getElem?.1 hg
        rcases hF.shut j g hj with ⟨p,hp,-⟩ | h1
        · rw [hst] at hp;cases hp
        · exact h1
      · simp at h
end Lx
namespace Lx
theorem isExpr_of {K:ByteArray} (h:isExpr K=true):K.data.toList=[105,102] ∨ K.data.toList=[101,108,105,102]:=by
  unfold isExpr at h
  rw [ByteArray.toList_eq,Bool.or_eq_true,beq_iff_eq,beq_iff_eq] at h
  exact h
theorem wdOf_ok (t:Tok):∀ x ∈ wdOf t,OkKT (t.t.size + 1) x.k x.t:=by
  unfold wdOf
  split
  · intro x hx
    exact (wd_ok _ 0 x hx).mono (by rw [ByteArray.size_extract];omega)
  · intro x hx;cases hx
theorem kind_first (t:Tok) (h:isExpr (kindOf t)=true ∨ isDfn (kindOf t)=true):isDir t=true∧∃ (w0:Tok) (r:List Tok),wdOf t=w0 :: r∧w0.t=kindOf t:=by
  have hoth:¬ (isExpr ⟨#[111,116,104,101,114]⟩=true ∨ isDfn ⟨#[111,116,104,101,114]⟩=true):=by
    unfold isExpr isDfn
    rw [ByteArray.toList_eq]
    decide
  have hnil:¬ (isExpr ⟨#[]⟩=true ∨ isDfn ⟨#[]⟩=true):=by
    unfold isExpr isDfn
    rw [ByteArray.toList_eq]
    decide
  unfold kindOf at h ⊢
  split at h
  · rename_i h7
    rw [if_pos h7]
    cases hw:wdOf t with
    | nil=>rw [hw] at h;exact absurd h hoth
    | cons w0 r =>
      rw [hw] at h
      change (isExpr (if Lib.containsS kinds w0.t=true then w0.t else ⟨#[111,116,104,101,114]⟩)=true ∨ isDfn (if Lib.containsS kinds w0.t=true then w0.t else ⟨#[111,116,104,101,114]⟩)=true) at h
      by_cases hc:Lib.containsS kinds w0.t=true
      · refine ⟨?_,w0,r,rfl,show w0.t=(if Lib.containsS kinds w0.t=true then w0.t else ⟨#[111,116,104,101,114]⟩) by rw [if_pos hc]⟩
        cases hd:isDir t
        · unfold wdOf at hw
          rw [hd,if_neg Bool.false_ne_true] at hw
          cases hw
        · rfl
      · rw [if_neg hc] at h
        exact absurd h hoth
  · exact absurd h hnil
theorem expr_words (t:Tok) (h:isExpr (kindOf t)=true):∃ (w0:Tok) (r:List Tok) (p:Nat),wdOf t=w0 :: r∧w0.a=(p:Int)∧1 + p + (kindOf t).size ≤ t.t.size∧r=(wd (t.t.extract (1 + p + (kindOf t).size) t.t.size) 0).map (shT (p + (kindOf t).size:Nat)):=by
  obtain ⟨hd,w0,r,hw,hk⟩:=kind_first t (.inl h)
  have h1:1 ≤ t.t.size:=by
    unfold isDir at hd
    rw [Bool.and_eq_true] at hd
    have h35:=of_decide_eq_true hd.2
    have:=B_lt_of_ne (s:=t.t) (i:=0) (by rw [h35];decide)
    omega
  have hok:=wdOf_ok t w0 (by rw [hw];exact List.mem_cons_self)
  have hk12:w0.k=1 ∨ w0.k=2:=by
    rcases isExpr_of h with e | e <;> rw [← hk] at e
    · exact hok.letter _ _ e (by decide)
    · exact hok.letter _ _ e (by decide)
  have hw2:=hw
  unfold wdOf at hw2
  rw [hd,if_pos rfl] at hw2
  obtain ⟨p,e1,e2,-,e4,-⟩:=wd_tail _ w0 r hw2 hk12
  rw [hk] at e2 e4
  have hsz:(t.t.extract 1 t.t.size).size=t.t.size - 1:=by rw [ByteArray.size_extract];omega
  refine ⟨w0,r,p,hw,e1,by omega,?_⟩
  rw [e4,wd_add,ext_ext t.t 1 _ h1,show p + (kindOf t).size + 1=1 + p + (kindOf t).size by omega]
noncomputable def holdsT (defs:List (ByteArray × ByteArray)) (t:Tok):Bool :=
  if isExpr (kindOf t)=true then (evR numB (valOf defs) (wdOf t).tail).1 != 0
  else ((match wdOf t with | _ :: u :: _=>if u.k=1 then (valOf defs u.t).2 else false | _=>false) == ((kindOf t).toList == [105,102,100,101,102]))
theorem holds_same (defs:List (ByteArray × ByteArray)) (t:Tok) (h:isExpr (kindOf t)=true ∨ isDfn (kindOf t)=true):∃ c,condOf t=some c∧c.val defs=holdsT defs t:=by
  unfold condOf holdsT
  cases hE:isExpr (kindOf t)
  · have hD:isDfn (kindOf t)=true:=h.resolve_left (by rw [hE];exact Bool.false_ne_true)
    rw [if_neg Bool.false_ne_true,if_neg Bool.false_ne_true,if_pos hD]
    refine ⟨_,rfl,?_⟩
    unfold Cn.val
    congr 1
    have hok:=wdOf_ok t
    match hw:wdOf t with
    | []=>simp [nameD,ByteArray.toList_eq]
    | [a]=>simp [nameD,ByteArray.toList_eq]
    | a :: u :: r =>
      dsimp only [nameD]
      by_cases hu:u.k=1
      · rw [if_pos hu,if_pos hu]
        have hne:=(hok u (by rw [hw];simp)).name hu
        have:u.t.toList.isEmpty=false:=by rw [ByteArray.toList_eq];simpa using hne
        rw [this,Bool.not_false,Bool.and_true]
      · rw [if_neg hu,if_neg hu]
        simp [ByteArray.toList_eq]
  · rw [if_pos rfl,if_pos rfl]
    obtain ⟨w0,r,p,hw,ha,-,hr⟩:=expr_words t hE
    refine ⟨_,rfl,?_⟩
    unfold Cn.val exprV
    rw [hw]
    dsimp only [headA,List.tail_cons]
    rw [ha,Int.toNat_natCast,hr,evR_map (shT_kt _)]
def toksOf (L:List Tok) (xs:List Int):List Tok:=xs.filterMap fun x=>L[x.toNat]?
theorem kAt_map (L:List Tok) (x:Int) (t:Tok) (h:L[x.toNat]? = some t):kAt (L.map kindOf) x=kindOf t:=by
  unfold kAt
  rw [List.getD_eq_getElem?_getD,List.getElem?_map,h]
  rfl
theorem condsL_toks (L:List Tok) (xs:List Int):condsL L xs=(toksOf L xs).filterMap condOf:=by
  unfold condsL toksOf
  rw [List.filterMap_filterMap]
theorem toksOf_len (L:List Tok):∀ xs:List Int,(∀ x ∈ xs,0 ≤ x∧x < (L.length:Int)) → (toksOf L xs).length=xs.length
  | [],_=>rfl
  | x :: r,h=>by
    have hx:=h x List.mem_cons_self
    obtain ⟨t,ht⟩:∃ t,L[x.toNat]? = some t:=⟨_,List.getElem?_eq_getElem (by omega)⟩
    unfold toksOf
    rw [List.filterMap_cons,ht]
    have:=toksOf_len L r (fun y hy=>h y (List.mem_cons_of_mem _ hy))
    unfold toksOf at this
    simp [this]
theorem toksOf_mem (L:List Tok) (xs:List Int) (t:Tok) (h:t ∈ toksOf L xs):∃ x ∈ xs,L[x.toNat]? = some t:=by
  unfold toksOf at h
  obtain ⟨x,h1,h2⟩:=List.mem_filterMap.1 h
  exact ⟨x,h1,h2⟩
theorem opens_kind {K:ByteArray} (h:opens K=true):isExpr K=true ∨ isDfn K=true:=by
  unfold opens sIf sIfdef sIfndef at h
  unfold isExpr isDfn
  rw [Bool.or_eq_true,Bool.or_eq_true] at h
  rw [Bool.or_eq_true,Bool.or_eq_true]
  rcases h with (h | h) | h
  · exact .inl (.inl h)
  · exact .inr (.inl h)
  · exact .inr (.inr h)
theorem groups_in (L:List Tok):∀ g ∈ (groups (L.map kindOf)).1,∀ x ∈ g.lines,0 ≤ x∧x < (L.length:Int):=by
  unfold groups groupsC
  split
  · intro g hg;cases hg
  · cases hr:grun 0 gs0 (L.map kindOf) 0 with
    | inr n=>intro g hg;cases hg
    | inl S =>
      have h:=sm_run 0 _ gs0 S 0 hr sm0
      dsimp only
      split
      · intro g hg x hx
        have:=(h.2 g hg).2 x hx
        rw [List.length_map] at this
        omega
      · intro g hg;cases hg
end Lx
end Go.Proofs.YtjnafjgonoficaaGreatDoor
