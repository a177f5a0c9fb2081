/-
  The evaluator of conditions, plainly: what it computes of words, with a bound on its steps. No program in sight. Conditions: none.
  The evaluator of conditions in memory; its calls 'is' and 'fail'. Conditions: the evaluator's block is its own.
  The search for an operator that comes. Conditions: the evaluator's block is its own; the operators lie in memory.
  What the value of a name comes to. Conditions: the definitions lie in memory; their texts are short; the library's error variables hold what they may.
  What the walks ask of the library's variables, in one word. Conditions: none.
  What the rows' lists give the walks: the library's variables are as their text lays them. Conditions: the world is shaped, and the listed variables read as listed.
  What the seven rows share: the wrap of a law that lists variables, and a start in which Go's library's variables lie as listed. Conditions: none.
  Maps keyed by numbers that a call makes: what they hold, as functions; looked up, written. Conditions: none.
  Slices of pairs of numbers: how they lie in memory; what slices.Clone comes to. Conditions: the slice is the call's own.
  The finder of groups in memory: what its state is, and how it is kept. Conditions: none.
  The finder's state with a group more. Conditions: none.
  What opening a group does to the finder. Conditions: the finder's blocks are its own.
  What opening a group does to the finder. Conditions: the finder's blocks are its own.
-/
import Derived.ProofKit
import Derived.OpenShut
import Derived.LaidMore
import Derived.Lay
import Derived.SevenTiedAt
import Derived.Stop.Joined
import Derived.Stop.LaidErr
import Derived.PinnedBridge
import Derived.Lib.LaidU8
import Derived.Lib.LaidCase
import Derived.Shelf.Vars
import Derived.HandedShaped
import Derived.Maps.Own
import Derived.Maps.OwnSet
import Derived.Maps.Views
import Derived.Maps.AppendAt
import Derived.Deep.RegionHeld3
import Derived.BigRegion
import Derived.Deep.RegionLaw
import Derived.Test.YtjnafjgonoficaaGreatDoorF06
import Derived.Test.YtjnafjgonoficaaGreatDoorTie
set_option linter.unusedVariables false
set_option linter.unusedSimpArgs false
namespace Go.Proofs.YtjnafjgonoficaaGreatDoor
open Go.RowKit Go.Proofs.YtjnafjgonoficaaGreatDoorW.PrintWords
namespace Lx
structure ES where
  l:List Tok
  bad:Bool
def ES.tl (S:ES):ES:=⟨S.l.tail,S.bad⟩
def ES.fail (S:ES):ES:=⟨S.l,true⟩
def isS (S:ES) (g:List UInt8):Bool:=match S.l with | []=>false | t :: _=>decide (t.k=6) && (t.t.toList == g)
def ops:List (List UInt8 × Nat):=[([124,124],1),([38,38],2),([61,61],3),([33,61],3),([60],4),([60,61],4),([62],4),([62,61],4),([43],5),([45],5),([42],6),([47],6),([37],6)]
def findFrom (lv:Nat) (S:ES):List (List UInt8 × Nat) → Nat → Option Nat
  | [],_=>none
  | o :: r,j=>if (decide (o.2=lv) && isS S o.1)=true then some j else findFrom lv S r (j + 1)
def findOp (lv:Nat) (S:ES):Option Nat:=findFrom lv S ops 0
def w64 (a:Int):Int:=wrap64 a
def bit (b:Bool):Int:=if b=true then 1 else 0
def quo (a b:Int):Int:=if b=0 then 0 else w64 (a.tdiv b)
def opDo (j:Nat) (a b:Int):Int:=match j with
  | 0=>bit (a != 0 || b != 0)
  | 1=>bit (a != 0 && b != 0)
  | 2=>bit (a == b)
  | 3=>bit (a != b)
  | 4=>bit (decide (a < b))
  | 5=>bit (decide (a ≤ b))
  | 6=>bit (decide (b < a))
  | 7=>bit (decide (b ≤ a))
  | 8=>w64 (a + b)
  | 9=>w64 (a - b)
  | 10=>w64 (a * b)
  | 11=>quo a b
  | _=>w64 (w64 (a - w64 (quo a b * b)) - w64 (a * bit (b == 0)))
def isSign (t:Tok):Bool:=decide (t.k=6) && (t.t.toList == [33] || t.t.toList == [45] || t.t.toList == [43])
def signsOf (l:List Tok):List ByteArray:=(l.takeWhile isSign).map (·.t)
def afterSigns (l:List Tok):List Tok:=l.dropWhile isSign
def signed1 (g:ByteArray) (v:Int):Int:=if (g.toList == [33])=true then bit (v == 0) else if (g.toList == [45])=true then w64 (-v) else v
def signed (l:List ByteArray) (v:Int):Int:=l.foldr signed1 v
def definedE (val:ByteArray → Int × Bool) (S:ES):Int × ES :=
  let T:=if isS S [40]=true then S.tl else S
  match T.l with
  | []=>(0,T.fail)
  | t :: r=>if t.k=1 then (if (isS S [40] && !(isS ⟨r,T.bad⟩ [41]))=true then (0,⟨r,true⟩) else (bit (val t.t).2,if isS S [40]=true then ⟨r.tail,T.bad⟩ else ⟨r,T.bad⟩)) else (0,T.fail)
mutual
def binF (num val:ByteArray → Int × Bool):Nat → Nat → ES → Option (Int × ES)
  | 0,_,_=>none
  | m + 1,lv,S=>if lv=7 then oneF num val m S else
    match binF num val m (lv + 1) S with
    | none=>none
    | some (v,T)=>loopF num val m lv v T
def loopF (num val:ByteArray → Int × Bool):Nat → Nat → Int → ES → Option (Int × ES)
  | 0,_,_,_=>none
  | m + 1,lv,v,S=>if S.bad=true then some (v,S) else
    match findOp lv S with
    | none=>some (v,S)
    | some j=>match binF num val m (lv + 1) S.tl with
      | none=>none
      | some (u,T)=>loopF num val m lv (opDo j v u) T
def oneF (num val:ByteArray → Int × Bool):Nat → ES → Option (Int × ES)
  | 0,_=>none
  | m + 1,S=>match operF num val m ⟨afterSigns S.l,S.bad⟩ with
    | none=>none
    | some (v,T)=>some (signed (signsOf S.l) v,T)
def operF (num val:ByteArray → Int × Bool):Nat → ES → Option (Int × ES)
  | 0,_=>none
  | m + 1,S=>if S.bad=true then some (0,S.fail) else
    match S.l with
    | []=>some (0,S.fail)
    | t :: r=>if isS S [40]=true then
        (match binF num val m 1 S.tl with
        | none=>none
        | some (v,T)=>if isS T [41]=true then some (v,T.tl) else some (0,T.fail))
      else if t.k=3 then (if (num t.t).2=true then some ((num t.t).1,S.tl) else some (0,S.tl.fail))
      else if (t.t.toList == [100,101,102,105,110,101,100])=true then some (definedE val S.tl)
      else if t.k=1 then some ((val t.t).1,S.tl)
      else some (0,S.tl.fail)
end
def evalF (num val:ByteArray → Int × Bool) (m:Nat) (l:List Tok):Option (Int × Bool) :=
  match binF num val m 1 ⟨l,false⟩ with
  | none=>none
  | some (v,T)=>if (T.bad || !T.l.isEmpty)=true then some (0,false) else some (v,true)
end Lx
end Go.Proofs.YtjnafjgonoficaaGreatDoor
namespace Go.Proofs.YtjnafjgonoficaaGreatDoor
open Go.RowKit Go.Proofs.YtjnafjgonoficaaGreatDoorW.PrintWords
def EV (w0 w:World) (dv ov:Value) (S:Lx.ES):Prop:=∃ lv,w.heap[w0.heap.size]? = some (.cells #[lv,dv,ov,.bool S.bad] 95 (0,0))∧Tks w0 lv S.l∧Below w0.heap.size w0 w
theorem EV.grown {w0 w w':World} {dv ov:Value} {S:Lx.ES} (h:EV w0 w dv ov S) (hg:w.grownBy w' none):EV w0 w' dv ov S:=by
  obtain ⟨lv,h1,h2,h3⟩:=h
  exact ⟨lv,(hg.block _ (blk_lt h1) (by simp)).trans h1,h2,h3.grown hg (by have:=blk_lt h1;omega) (fun k hk=>by cases hk)⟩
theorem Tks.tail {w:World} {c:Nat} {g o:Nat} {L:List Lx.Tok} {t:Lx.Tok} (h:Tks w (.slice (some ⟨g,o,none⟩) (L.length + 1) c) (t :: L)):Tks w (.slice (some ⟨g,o + 4,none⟩) L.length (c - 1)) L:=by
  obtain ⟨A',c',e,h1,h2,h3⟩:=h
  simp only [Value.slice.injEq] at e
  obtain ⟨rfl,e2,rfl⟩:=e
  simp only [List.length_cons] at h1
  refine ⟨_,_,rfl,by omega,by omega,?_⟩
  obtain ⟨g',o',e3,h4,h5⟩:=h3.resolve_left (by simp)
  simp only [Option.some.injEq,Addr.mk.injEq,and_true] at e3
  obtain ⟨rfl,rfl⟩:=e3
  refine .inr ⟨g,o + 4,rfl,?_,h5⟩
  intro i x hx
  have:=h4 (i + 1) x (by simpa using hx)
  rw [show o + (i + 1) * 4=o + 4 + i * 4 from by omega] at this
  exact this
theorem fail_calls (w0 w:World) (dv ov:Value) (S:Lx.ES) (h:EV w0 w dv ov S) :
    Calls Tryz.prog 137 #[.pointer (some ⟨w0.heap.size,0,none⟩)] w fun e w'=>e=.returned (.int .i64 0)∧EV w0 w' dv ov S.fail∧w.grownBy w' (some w0.heap.size):=by
  obtain ⟨lv,h1,h2,h3⟩:=h
  obtain ⟨x,hx⟩:∃ x,w0.heap.size=x:=⟨_,rfl⟩
  have H2:=mkA h2
  have H3:=mkA h3
  have HX:=mkA hx
  rw [hx] at h1 ⊢
  have H1:=mkA h1
  have c3:w.cell? ⟨x,3,none⟩=some (.bool S.bad):=by rw [blk_cell h1];rfl
  have z3:=blk_frozen h1 3
  have hl:=blk_lt h1
  clear h1 h2 h3 hx
  go_enter Tryz.func137,Tryz.ntmps137
  go_wp2_with fail
  go_ret
  have hg:w.grownBy (w.setCell ⟨x,3,none⟩ (.bool true)) (some x):=grown_set (World.grownBy.refl _ _) _ _
  refine ⟨rfl,⟨lv,?_,H2.out,?_⟩,hg⟩
  · rw [HX.out];exact blk_set H1.out 3 _
  · exact H3.out.grown hg (by rw [HX.out];omega) (fun k hk=>by cases hk;rw [HX.out];exact Nat.le_refl _)
set_option maxRecDepth 100000 in
theorem is_calls (w0 w:World) (dv ov:Value) (S:Lx.ES) (gs:List UInt8) (gb:ByteArray) (hgb:gb.toList=gs) (h:EV w0 w dv ov S) :
    Calls Tryz.prog 86 #[.pointer (some ⟨w0.heap.size,0,none⟩),.string gb] w fun e w'=>e=.returned (.bool (Lx.isS S gs))∧EV w0 w' dv ov (if Lx.isS S gs=true then S.tl else S)∧w.grownBy w' (some w0.heap.size):=by
  have h0:=h
  obtain ⟨lv,h1,h2,h3⟩:=h
  have h2':=h2
  obtain ⟨A,c,rfl,hc1,hc2,hA⟩:=h2
  obtain ⟨x,hx⟩:∃ x,w0.heap.size=x:=⟨_,rfl⟩
  have H0:=mkA h0
  have H3:=mkA h3
  have HX:=mkA hx
  rw [hx] at h1 ⊢
  have H1:=mkA h1
  have c0:w.cell? ⟨x,0,none⟩=some (.slice A S.l.length c):=by rw [blk_cell h1];rfl
  have z0:=blk_frozen h1 0
  have hl:=blk_lt h1
  have hbx:∀ {g o:Nat} {L:List Lx.Tok},TokAt w0 g o L → g < w0.heap.size → TokAt w g o L:=fun a b=>a.below h3 b
  obtain ⟨l,bad⟩:=S
  cases l with
  | nil =>
    have hf:Lx.isS ⟨[],bad⟩ gs=false:=rfl
    rw [hf]
    clear h1 h3 hx h0 hA hbx h2'
    go_enter Tryz.func86,Tryz.ntmps86
    go_wp2_with fail
    go_ret
    exact ⟨rfl,H0.out,World.grownBy.refl _ _⟩
  | cons t r =>
    obtain ⟨g,o,rfl,hta,hgl⟩:=hA.resolve_left (by simp)
    obtain ⟨a0,a1,a2,a3⟩:=(hbx hta hgl) 0 t rfl
    have H2:=mkA h2'
    have hlen:((⟨t :: r,bad⟩:Lx.ES).l.length:Int)=(r.length:Int) + 1:=by simp
    simp only [Nat.zero_mul,Nat.add_zero,List.length_cons] at a0 a1 a2 a3 c0 hc1
    clear h1 h3 hx h0 hA hbx hta h2'
    have hr1:decide ((r.length:Int) + 1=0)=false:=decide_eq_false (by omega)
    have hr2:(((r.length:Int) + 1) == 0)=false:=by rw [beq_eq_false_iff_ne];omega
    have hdef:Lx.isS ⟨t :: r,bad⟩ gs=(decide (t.k=6) && (t.t.toList == gs)):=rfl
    rw [hdef]
    clear hlen hdef
    cases hk:(t.k != 6)
    · rw [decide_eq_true (bne_eq_false_iff_eq.mp hk),Bool.true_and]
      cases hs:(t.t.toList == gs)
      · go_enter Tryz.func86,Tryz.ntmps86
        go_wp2_with fail
        go_ret
        exact ⟨rfl,H0.out,World.grownBy.refl _ _⟩
      · by_cases hc:c=1
        · subst hc
          have hr0:r.length=0:=by omega
          have HR:=mkA hr0
          clear hr0
          go_enter Tryz.func86,Tryz.ntmps86
          go_wp2_with fail
          go_ret
          have hg:w.grownBy (w.setCell ⟨x,0,none⟩ (.slice (some ⟨g,o,none⟩) 0 0)) (some x):=grown_set (World.grownBy.refl _ _) _ _
          refine ⟨rfl,⟨.slice (some ⟨g,o,none⟩) 0 0,by rw [HX.out];exact blk_set H1.out 0 _,?_,?_⟩,hg⟩
          · obtain rfl:r=[]:=List.eq_nil_of_length_eq_zero HR.out
            exact ⟨_,_,rfl,Nat.le_refl _,Nat.zero_le _,.inl rfl⟩
          · exact H3.out.grown hg (by rw [HX.out];omega) (fun k hk=>by cases hk;rw [HX.out];exact Nat.le_refl _)
        · go_enter Tryz.func86,Tryz.ntmps86
          go_wp2_with fail
          go_ret
          have hg:w.grownBy (w.setCell ⟨x,0,none⟩ (.slice (some ⟨g,o + 4,none⟩) r.length (c - 1))) (some x):=grown_set (World.grownBy.refl _ _) _ _
          refine ⟨rfl,⟨_,by rw [HX.out];exact blk_set H1.out 0 _,H2.out.tail,?_⟩,hg⟩
          exact H3.out.grown hg (by rw [HX.out];omega) (fun k hk=>by cases hk;rw [HX.out];exact Nat.le_refl _)
    · rw [decide_eq_false (bne_iff_ne.mp hk),Bool.false_and]
      go_enter Tryz.func86,Tryz.ntmps86
      go_wp2_with fail
      go_ret
      exact ⟨rfl,H0.out,World.grownBy.refl _ _⟩
def opFuncs:List Nat:=[68,70,71,72,73,74,75,76,77,78,79,80,82]
def OpsAt (w:World) (g:Nat):Prop:=g < w.heap.size∧∀ (j:Nat) (o:List UInt8 × Nat),Lx.ops[j]? = some o → w.cell? ⟨g,j * 3,none⟩=some (.string ⟨o.1.toArray⟩)∧w.cell? ⟨g,j * 3 + 1,none⟩=some (.int .i64 o.2)∧∃ k,opFuncs[j]? = some k∧w.cell? ⟨g,j * 3 + 2,none⟩=some (.func (.func k) #[] #[])
theorem OpsAt.below {w w':World} {g:Nat} (h:OpsAt w g) (hb:Below w.heap.size w w'):OpsAt w' g:=by
  refine ⟨Nat.lt_of_lt_of_le h.1 hb.size,fun j o hj => ?_⟩
  obtain ⟨h1,h2,k,h3,h4⟩:=h.2 j o hj
  exact ⟨(hb.cell h.1).trans h1,(hb.cell h.1).trans h2,k,h3,(hb.cell h.1).trans h4⟩
set_option maxRecDepth 100000 in
theorem binary1_calls (w0 w:World) (dv ov:Value) (S:Lx.ES) (sg:List UInt8) (ol lv b2 b3 k:Nat) (h:EV w0 w dv ov S) (h3:w.cell? ⟨b3,0,none⟩=some (.int .i64 lv)) (h2:w.cell? ⟨b2,0,none⟩=some (.pointer (some ⟨w0.heap.size,0,none⟩))) (hb3:b3 < w.heap.size) (hb2:b2 < w.heap.size) :
    Calls Tryz.prog 85 #[.agg #[.string ⟨sg.toArray⟩,.int .i64 ol,.func (.func k) #[] #[]],.pointer (some ⟨b3,0,none⟩),.pointer (some ⟨b2,0,none⟩)] w fun e w' =>
      e=.returned (.bool (decide (ol=lv) && Lx.isS S sg))∧EV w0 w' dv ov (if (decide (ol=lv) && Lx.isS S sg)=true then S.tl else S)∧w.grownBy w' (some w0.heap.size):=by
  have hEV:=h.grown (World.grownBy_alloc w (.cells #[.string ⟨sg.toArray⟩,.int .i64 ol,.func (.func k) #[] #[]] 118) none)
  have H:=mkA (is_calls w0 _ dv ov S sg ⟨sg.toArray⟩ (by rw [ByteArray.toList_eq]) hEV)
  have HEV:=mkA hEV
  clear h hEV
  by_cases hd:ol=lv
  · subst hd
    rw [decide_eq_true rfl,Bool.true_and]
    obtain ⟨S',hS'⟩:∃ S',(if Lx.isS S sg=true then S.tl else S)=S':=⟨_,rfl⟩
    rw [hS']
    have HS':=mkA hS'
    clear hS'
    have hd2:((ol:Int) == (ol:Int))=true:=by simp
    go_enter Tryz.func85,Tryz.ntmps85
    go_wp2_with (go_at_call 86;(refine H.out.mono ?_);rintro e w' ⟨rfl,hev,hg⟩;have HEV2:=mkA hev;have HG2:=mkA hg;clear hev hg)
    go_ret
    exact ⟨rfl,by rw [← HS'.out];exact HEV2.out,grown_trans (World.grownBy_alloc _ _ _) HG2.out⟩
  · rw [decide_eq_false hd,Bool.false_and]
    clear H
    have hd2:((ol:Int) == (lv:Int))=false:=by rw [beq_eq_false_iff_ne];omega
    go_enter Tryz.func85,Tryz.ntmps85
    go_wp2_with fail
    go_ret
    exact ⟨rfl,HEV.out,World.grownBy_alloc _ _ _⟩
def placeOf (o:Option Nat):Int:=match o with | none => -1 | some j=>(j:Int)
theorem findFrom_at (lv:Nat) (S:Lx.ES) (l:List (List UInt8 × Nat)) (j:Nat) (o:List UInt8 × Nat) (i:Nat) (h:l[i]? = some o):Lx.findFrom lv S (l.drop i) j=if (decide (o.2=lv) && Lx.isS S o.1)=true then some j else Lx.findFrom lv S (l.drop (i + 1)) (j + 1):=by
  obtain ⟨hi,rfl⟩:=List.getElem?_eq_some_iff.1 h
  rw [List.drop_eq_getElem_cons hi]
  rfl
set_option maxRecDepth 100000 in
theorem findOp_calls (w0 w:World) (dv:Value) (og lv b2 b3:Nat) (S:Lx.ES) (hO:OpsAt w0 og) (h:EV w0 w dv (.slice (some ⟨og,0,none⟩) 13 13) S) (h3:w.heap[b3]? = some (.cells #[.int .i64 lv] 3 (0,0))) (h2:w.heap[b2]? = some (.cells #[.pointer (some ⟨w0.heap.size,0,none⟩)] 91 (0,0))) (hx2:b2 ≠ w0.heap.size) (hx3:b3 ≠ w0.heap.size) :
    Calls Tryz.prog 84 #[.slice (some ⟨og,0,none⟩) 13 13,.func (.func 85) #[] #[.pointer (some ⟨b3,0,none⟩),.pointer (some ⟨b2,0,none⟩)]] w fun e w' =>
      e=.returned (.int .i64 (placeOf (Lx.findOp lv S)))∧EV w0 w' dv (.slice (some ⟨og,0,none⟩) 13 13) (if (Lx.findOp lv S).isSome=true then S.tl else S)∧w.grownBy w' (some w0.heap.size):=by
  obtain ⟨R,hR⟩:∃ R,Lx.findOp lv S=R:=⟨_,rfl⟩
  rw [hR]
  obtain ⟨S',hS'⟩:∃ S',(if R.isSome=true then S.tl else S)=S':=⟨_,rfl⟩
  rw [hS']
  have HS':=mkA hS'
  clear hS'
  obtain ⟨pl,hpl⟩:∃ pl,placeOf R=pl:=⟨_,rfl⟩
  rw [hpl]
  have HPL:=mkA hpl
  clear hpl
  have HR:=mkA hR
  have HEV:=mkA h
  have HO:=mkA hO
  have H3:=mkA h3
  have H2:=mkA h2
  clear h h3 h2 hR hO
  go_enter Tryz.func84,Tryz.ntmps84
  go_wp2_with fail
  go_loopg [8] 13 (fun kq v8 W => ∃ i:Nat,v8=.int .i64 i∧Aside0 (i ≤ 13∧kq=13 - i∧Lx.findFrom lv S (Lx.ops.drop i) i=R)∧Aside0 (EV w0 W dv (.slice (some ⟨og,0,none⟩) 13 13) S)∧Aside0 (w.grownBy W (some w0.heap.size)))
  case atStart=>exact ⟨0,rfl,⟨by omega,rfl,HR.out⟩,HEV,⟨World.grownBy.refl _ _⟩⟩
  case round =>
    obtain ⟨i,rfl,HI,HE,HW⟩:=hrel
    have hi:=HI.out.1
    by_cases hlt:i < 13
    · obtain ⟨o,ho⟩:∃ o,Lx.ops[i]? = some o:=⟨_,List.getElem?_eq_getElem hlt⟩
      obtain ⟨sg,ol⟩:=o
      have hbW:Below w0.heap.size w0 wr:=by obtain ⟨_,_,_,e⟩:=HE.out;exact e
      obtain ⟨a0,a1,k,-,a2⟩:=(HO.out.below hbW).2 i _ ho
      dsimp only at a0 a1 a2
      have hff:=findFrom_at lv S Lx.ops i (sg,ol) i ho
      rw [HI.out.2.2] at hff
      have g3:=(HW.out.block b3 (blk_lt H3.out) (by simpa using hx3)).trans H3.out
      have g2:=(HW.out.block b2 (blk_lt H2.out) (by simpa using hx2)).trans H2.out
      have HC:=mkA (binary1_calls w0 wr dv _ S sg ol lv b2 b3 k HE.out (by rw [blk_cell g3];rfl) (by rw [blk_cell g2];rfl) (blk_lt g3) (blk_lt g2))
      obtain ⟨f,hf⟩:∃ f,(decide (ol=lv) && Lx.isS S sg)=f:=⟨_,rfl⟩
      dsimp only at hff
      rw [hf] at hff HC
      have HFF:=mkA hff
      clear hff hf g3 g2 ho hbW
      cases f
      · go_wp2_with (go_at_call 85;(refine HC.out.mono ?_);rintro e w' ⟨rfl,hev,hg⟩;have HEV2:=mkA hev;have HG2:=mkA hg;clear hev hg)
        go_roundg (13 - (i + 1))
        case measure=>have:=HI.out;omega
        case rel =>
          refine ⟨i + 1,by go_num,⟨by omega,rfl,?_⟩,HEV2,⟨grown_trans HW.out HG2.out⟩⟩
          exact (HFF.out).symm
      · go_wp2_with (go_at_call 85;(refine HC.out.mono ?_);rintro e w' ⟨rfl,hev,hg⟩;have HEV2:=mkA hev;have HG2:=mkA hg;clear hev hg)
        go_ret
        rw [← HS'.out,← HPL.out,HFF.out]
        exact ⟨rfl,HEV2.out,grown_trans HW.out HG2.out⟩
    · obtain rfl:i=13:=by omega
      have hff:=HI.out.2.2
      have hnone:Lx.findFrom lv S (Lx.ops.drop 13) 13=none:=rfl
      rw [hnone] at hff
      have HFF:=mkA hff
      clear hff hnone
      go_wp2_with fail
      go_ret
      rw [← HS'.out,← HPL.out,← HFF.out]
      exact ⟨rfl,HE.out,HW.out⟩
namespace Lx
def defFrom (name:List UInt8):List (ByteArray × ByteArray) → Nat → Option Nat
  | [],_=>none
  | d :: r,j=>if (d.1.toList == name)=true then some j else defFrom name r (j + 1)
def worth (s:ByteArray):Int:=match Lib.parseIntB 64 s.data.toList with | .ok v=>v | _=>0
def valOf (defs:List (ByteArray × ByteArray)) (name:ByteArray):Int × Bool:=match defFrom name.toList defs 0 with
  | none=>(0,false)
  | some j=>match defs[j]? with | none=>(0,false) | some d=>(worth d.2,true)
theorem defFrom_at (name:List UInt8) (l:List (ByteArray × ByteArray)) (j:Nat) (d:ByteArray × ByteArray) (i:Nat) (h:l[i]? = some d):defFrom name (l.drop i) j=if (d.1.toList == name)=true then some j else defFrom name (l.drop (i + 1)) (j + 1):=by
  obtain ⟨hi,rfl⟩:=List.getElem?_eq_some_iff.1 h
  rw [List.drop_eq_getElem_cons hi]
  rfl
theorem defFrom_lt (name:List UInt8):∀ (l:List (ByteArray × ByteArray)) (j k:Nat),defFrom name l j=some k → j ≤ k∧k < j + l.length
  | [],j,k,h=>by simp [defFrom] at h
  | d :: r,j,k,h=>by
    unfold defFrom at h
    split at h
    · cases h;simp
    · have:=defFrom_lt name r (j + 1) k h
      simp only [List.length_cons];omega
end Lx
def Dfs (w:World) (v:Value) (L:List (ByteArray × ByteArray)):Prop:=∃ A c,v=.slice A L.length c∧L.length ≤ c∧c ≤ maxLen∧L.length ≤ 100000∧(∀ d ∈ L,d.2.size ≤ 1000000)∧(L=[] ∨ ∃ g o,A=some ⟨g,o,none⟩∧g < w.heap.size ∧
  ∀ (i:Nat) (d:ByteArray × ByteArray),L[i]? = some d → w.cell? ⟨g,o + i * 2,none⟩=some (.string d.1)∧w.cell? ⟨g,o + i * 2 + 1,none⟩=some (.string d.2))
theorem Dfs.below {w w':World} {v:Value} {L:List (ByteArray × ByteArray)} (h:Dfs w v L) (hb:Below w.heap.size w w'):Dfs w' v L:=by
  obtain ⟨A,c,e,h1,h2,h3,h4,h5⟩:=h
  refine ⟨A,c,e,h1,h2,h3,h4,h5.imp id ?_⟩
  rintro ⟨g,o,e2,hg,h6⟩
  exact ⟨g,o,e2,Nat.lt_of_lt_of_le hg hb.size,fun i d hd=>⟨(hb.cell hg).trans (h6 i d hd).1,(hb.cell hg).trans (h6 i d hd).2⟩⟩
def Errs (w:World):Prop:=4 ≤ w.heap.size∧(∃ ev,w.cell? ⟨2,0,none⟩=some ev∧(ev=.nilIface ∨ ∃ te pe,ev=.iface te pe))∧∃ ev,w.cell? ⟨3,0,none⟩=some ev∧(ev=.nilIface ∨ ∃ te pe,ev=.iface te pe)
theorem Errs.grown {w w':World} (h:Errs w) (hg:w.grownBy w' none):Errs w':=by
  obtain ⟨h4,⟨e1,h1,h2⟩,e3,h3,h5⟩:=h
  exact ⟨Nat.le_trans h4 hg.size,⟨e1,hg.cell h1 (by simp),h2⟩,e3,hg.cell h3 (by simp),h5⟩
theorem Errs.below {w w':World} (h:Errs w) (hb:Below w.heap.size w w'):Errs w':=by
  obtain ⟨h4,⟨e1,h1,h2⟩,e3,h3,h5⟩:=h
  exact ⟨Nat.le_trans h4 hb.size,⟨e1,(hb.cell (show 2 < _ by omega)).trans h1,h2⟩,e3,(hb.cell (show 3 < _ by omega)).trans h3,h5⟩
set_option maxRecDepth 100000 in
theorem findDef_calls (w:World) (dv:Value) (defs:List (ByteArray × ByteArray)) (name:ByteArray) (nl:List UInt8) (hnl:name.toList=nl) (b:Nat) (hD:Dfs w dv defs) (hb:w.heap[b]? = some (.cells #[.string name] 9 (0,0))) :
    Calls Tryz.prog 105 #[dv,.func (.func 106) #[] #[.pointer (some ⟨b,0,none⟩)]] w fun e w'=>e=.returned (.int .i64 (placeOf (Lx.defFrom nl defs 0)))∧w.grownBy w' none:=by
  obtain ⟨R,hR⟩:∃ R,Lx.defFrom nl defs 0=R:=⟨_,rfl⟩
  rw [hR]
  obtain ⟨pl,hpl⟩:∃ pl,placeOf R=pl:=⟨_,rfl⟩
  rw [hpl]
  obtain ⟨A,c,rfl,hc1,hc2,hlen,-,hA⟩:=hD
  obtain ⟨n,hn⟩:∃ n,defs.length=n:=⟨_,rfl⟩
  rw [hn] at hlen hc1 ⊢
  have HPL:=mkA hpl
  have HR:=mkA hR
  have HN:=mkA hn
  have HA:=mkA hA
  have HB:=mkA hb
  clear hpl hR hA hb hn
  go_enter Tryz.func105,Tryz.ntmps105
  go_wp2_with fail
  go_loopg [8] n (fun kq v8 W => ∃ i:Nat,v8=.int .i64 i∧Aside0 (i ≤ n∧kq=n - i∧Lx.defFrom nl (defs.drop i) i=R)∧Aside0 (w.grownBy W none))
  case atStart=>exact ⟨0,rfl,⟨by omega,rfl,HR.out⟩,⟨World.grownBy.refl _ _⟩⟩
  case round =>
    obtain ⟨i,rfl,HI,HW⟩:=hrel
    have hi:=HI.out.1
    by_cases hlt:i < n
    · obtain ⟨d,hd⟩:∃ d,defs[i]? = some d:=⟨_,List.getElem?_eq_getElem (by have:=HN.out;omega)⟩
      have hne:defs ≠ []:=fun e=>by rw [e] at hd;simp at hd
      obtain ⟨g,o,rfl,hgl,hat⟩:=HA.out.resolve_left hne
      obtain ⟨a0,a1⟩:=hat i d hd
      have a0:=HW.out.cell a0 (by simp)
      have a1:=HW.out.cell a1 (by simp)
      have hff:=Lx.defFrom_at nl defs i d i hd
      rw [HI.out.2.2] at hff
      have g2:=(HW.out.block b (blk_lt HB.out) (by simp)).trans HB.out
      have g3:wr.cell? ⟨b,0,none⟩=some (.string name):=by rw [blk_cell g2];rfl
      have hbl:=blk_lt g2
      obtain ⟨f,hf⟩:∃ f,(d.1.toList == nl)=f:=⟨_,rfl⟩
      rw [hf] at hff
      have HFF:=mkA hff
      clear hff g2 hd hat hgl hne
      cases f
      · go_wp2_with go_in
        go_roundg (n - (i + 1))
        case measure=>have:=HI.out;omega
        case rel =>
          refine ⟨i + 1,by go_num,⟨by omega,rfl,?_⟩,⟨grown_trans HW.out (World.grownBy_alloc _ _ _)⟩⟩
          exact HFF.out.symm
      · go_wp2_with go_in
        go_ret
        rw [← HPL.out,HFF.out]
        exact ⟨rfl,grown_trans HW.out (World.grownBy_alloc _ _ _)⟩
    · obtain rfl:i=n:=by omega
      have hff:=HI.out.2.2
      have hnone:defs.drop i=[]:=List.drop_eq_nil_of_le (by have:=HN.out;omega)
      rw [hnone] at hff
      have HFF:=mkA hff
      clear hff hnone
      go_wp2_with fail
      go_ret
      rw [← HPL.out,← HFF.out]
      exact ⟨rfl,HW.out⟩
set_option maxRecDepth 100000 in
theorem value_calls (w:World) (dv:Value) (defs:List (ByteArray × ByteArray)) (name:ByteArray) (hD:Dfs w dv defs) (hE:Errs w) :
    Calls Tryz.prog 91 #[dv,.string name] w fun e w'=>e=.returned (.tuple #[.int .i64 (Lx.valOf defs name).1,.bool (Lx.valOf defs name).2])∧w.grownBy w' none:=by
  have hb:=blk_new w (.cells #[.string name] 9)
  have hB1:Below w.heap.size w (w.alloc (.cells #[.string name] 9)):=(Below.refl _ _).alloc (Nat.le_refl _) _
  have hF:=findDef_calls _ dv defs name _ rfl w.heap.size (hD.below hB1) hb
  obtain ⟨R,hR⟩:∃ R,Lx.defFrom name.toList defs 0=R:=⟨_,rfl⟩
  rw [hR] at hF
  obtain ⟨V,hV⟩:∃ V,Lx.valOf defs name=V:=⟨_,rfl⟩
  rw [hV]
  unfold Lx.valOf at hV
  rw [hR] at hV
  have HF:=mkA hF
  obtain ⟨A,c,rfl,hc1,hc2,hlen,hsz,hA⟩:=hD
  have HE:=mkA hE
  cases R with
  | none =>
    dsimp only at hV
    subst hV
    clear hF hB1 hb hR hA hE hsz
    go_enter Tryz.func91,Tryz.ntmps91
    go_wp2_with (go_at_call 105;(refine HF.out.mono ?_);rintro e w' ⟨rfl,hg⟩;have HG:=mkA hg;clear hg;unfold placeOf)
    go_ret2
    exact ⟨rfl,grown_trans (World.grownBy_alloc _ _ _) HG.out⟩
  | some j =>
    have hj:=(Lx.defFrom_lt _ _ _ _ hR).2
    obtain ⟨d,hd⟩:∃ d,defs[j]? = some d:=⟨_,List.getElem?_eq_getElem (by omega)⟩
    dsimp only at hV
    rw [hd] at hV
    dsimp only at hV
    subst hV
    have hne:defs ≠ []:=fun e=>by rw [e] at hd;simp at hd
    obtain ⟨g,o,rfl,hgl,hat⟩:=hA.resolve_left hne
    obtain ⟨a0,a1⟩:=hat j d hd
    have hds:=hsz d (List.mem_iff_getElem?.2 ⟨j,hd⟩)
    obtain ⟨n,hn⟩:∃ n,defs.length=n:=⟨_,rfl⟩
    rw [hn] at hlen hc1 hj HF ⊢
    have hj2:j < n:=by omega
    obtain ⟨vx,hvx⟩:∃ vx,Lx.worth d.2=vx:=⟨_,rfl⟩
    rw [hvx]
    unfold Lx.worth at hvx
    have HVX:=mkA hvx
    clear hF hB1 hb hR hE hsz hne hat hd hn a0 hvx hA
    rcases hp:Lib.parseIntB 64 d.2.data.toList with v | _ | _
    ·
      have HP:=mkA hp
      clear hp
      go_enter Tryz.func91,Tryz.ntmps91
      go_wp2_with (first | (go_at_call 105;(refine HF.out.mono ?_);rintro e w' ⟨rfl,hg⟩;have a2:=hg.cell ((World.grownBy_alloc w (.cells #[.string name] 9) none).cell a1 (by simp)) (by simp);have HG:=mkA hg;clear hg;unfold placeOf) | (go_at_call 107;(refine (Tryz.strconv_ParseInt_10_at64_ok d.2 (by omega) v HP.out _).mono ?_);rintro e w2 ⟨rfl,hw2⟩;have HW2:=mkA hw2;clear hw2))
      go_ret2
      have hv:vx=v:=by have h9:=HVX.out;rw [HP.out] at h9;exact h9.symm
      rw [hv]
      refine ⟨rfl,grown_trans (grown_trans (World.grownBy_alloc _ _ _) HG.out) ?_⟩
      rcases HW2.out with rfl | ⟨tt,rfl⟩
      · exact World.grownBy.refl _ _
      · exact grown_below (World.grownBy.refl _ _) (Lib.bytesWorld_below _ _ _)
    ·
      have HP:=mkA hp
      clear hp
      go_enter Tryz.func91,Tryz.ntmps91
      go_wp2_with (first | (go_at_call 105;(refine HF.out.mono ?_);rintro e w' ⟨rfl,hg⟩;have a2:=hg.cell ((World.grownBy_alloc w (.cells #[.string name] 9) none).cell a1 (by simp)) (by simp);have hg2:=grown_trans (World.grownBy_alloc w (.cells #[.string name] 9) none) hg;obtain ⟨-,⟨e1,h1,h2⟩,-⟩:=HE.out.grown hg2;have H1:=mkA h1;have H2:=mkA h2;have HG:=mkA hg2;clear hg hg2 h1 h2;unfold placeOf) | (go_at_call 107;(refine (Tryz.strconv_ParseInt_10_at64_syntax d.2 (by omega) HP.out e1 _ H1.out H2.out).mono ?_);rintro e w2 ⟨Nn,rfl,-,-,hw2⟩;have HW2:=mkA hw2;clear hw2))
      go_ret2
      have hv:vx=0:=by have h9:=HVX.out;rw [HP.out] at h9;exact h9.symm
      rw [hv]
      exact ⟨rfl,grown_below HG.out HW2.out⟩
    ·
      have HP:=mkA hp
      clear hp
      go_enter Tryz.func91,Tryz.ntmps91
      go_wp2_with (first | (go_at_call 105;(refine HF.out.mono ?_);rintro e w' ⟨rfl,hg⟩;have a2:=hg.cell ((World.grownBy_alloc w (.cells #[.string name] 9) none).cell a1 (by simp)) (by simp);have hg2:=grown_trans (World.grownBy_alloc w (.cells #[.string name] 9) none) hg;obtain ⟨-,-,e1,h1,h2⟩:=HE.out.grown hg2;have H1:=mkA h1;have H2:=mkA h2;have HG:=mkA hg2;clear hg hg2 h1 h2;unfold placeOf) | (go_at_call 107;(refine (Tryz.strconv_ParseInt_10_at64_range d.2 (by omega) HP.out e1 _ H1.out H2.out).mono ?_);rintro e w2 ⟨Nn,rfl,-,-,hw2⟩;have HW2:=mkA hw2;clear hw2))
      go_ret2
      have hv:vx=0:=by have h9:=HVX.out;rw [HP.out] at h9;exact h9.symm
      rw [hv]
      exact ⟨rfl,grown_below HG.out HW2.out⟩
structure Laid (w:World):Prop where
  maxLen:MaxLen w
  blanks:Blanks w
  errs:Errs w
  tabs:Lib.Utf8Tabs 6 7 w
  case:Lib.CaseVar 5 Lib.caseA w
  size:8 ≤ w.heap.size
theorem Laid.below {w w':World} (h:Laid w) (hb:Below w.heap.size w w'):Laid w' :=
  ⟨h.maxLen.belowN hb (by have:=h.size;omega),h.blanks.below hb (by have:=h.size;omega),h.errs.below hb,Utf8Tabs_below h.tabs hb,Lib.CaseVar_below h.case hb,Nat.le_trans h.size hb.size⟩
theorem below_drawn {w w':World} (h:Drawn0 w w'):Below w.heap.size w w':=by
  obtain ⟨n,rfl⟩:=h.out
  exact ⟨rfl,rfl,rfl,Nat.le_refl _,fun _ _=>rfl⟩
def AwC:Prop:=∀ W:World,Laid W → Calls Tryz.prog 19 #[] W fun e w'=>e=.returned (.bool true)∧Below W.heap.size W w'
end Go.Proofs.YtjnafjgonoficaaGreatDoor
namespace Go.Proofs.YtjnafjgonoficaaGreatDoor
open Go.ChangeShapes Go.WideShapes Go.ChangeAt Go.RowKit
theorem own:ownKnob Tryz.prog.godebug=none:=by kernel_rfl
def laidL:List (String × DataW Unit):=Rows.condLinesRow.laid
theorem caseD:Rows.laid_unicode_CaseRanges=Lib.caseData:=Pinned.caseRanges_eq
theorem firstD:Rows.laid_unicode_utf8_first=Lib.firstData:=Pinned.utf8First_eq
theorem acceptD:(Rows.laid_unicode_utf8_acceptRanges:DataW Unit)=Lib.acceptData:=by kernel_rfl
theorem spaceD:(Rows.laid_strings_asciiSpace:DataW Unit)=Lib.tabData .u8 Lib.asciiSpaceTab:=by kernel_rfl
theorem lays260:Lays.n260 Tryz.prog Tryz.lays271_ren:={ Tryz.lays271 with }
theorem lays274:Lays.n274 Tryz.prog Tryz.lays159_ren:={ Tryz.lays159 with }
theorem u8x:U8Extra Tryz.prog Tryz.lays271_ren:=⟨by kernel_rfl,by kernel_rfl,by kernel_rfl,by kernel_rfl,by kernel_rfl,by kernel_rfl,by kernel_rfl⟩
theorem casex:CaseExtra Tryz.prog Tryz.lays159_ren:=⟨by kernel_rfl,by kernel_rfl,by kernel_rfl,by kernel_rfl,by kernel_rfl,by kernel_rfl⟩
theorem cell_lt {w:World} {b o:Nat} {v:Value} (h:w.cell? ⟨b,o,none⟩=some v):b < w.heap.size:=by
  unfold World.cell? at h
  cases hb:w.heap[b]? with
  | none=>dsimp only at h;rw [hb] at h;cases h
  | some x=>exact (Array.getElem?_eq_some_iff.1 hb).1
theorem star : "*" ++ "errors.errorString" = "*errors.errorString" := by decide
theorem rowErr (u : TypeId) (h : Tryz.prog.typeName? 3 u = some "*errors.errorString") : u = 238 :=
  typeName_ptr_named (nm := "errors.errorString") (by rw [star]; kernel_rfl) (by kernel_rfl) (by decide) u (by rw [star]; exact h)
theorem max_int (w:World) (h:w.ShapedOpen Tryz.prog):∃ m,w.cell? ⟨4,0,none⟩=some (.int .i64 m) :=
  cell_of_shapedOpen_int (t:=3) (zero:=#[.int .i64 0]) h (of_decide_eq_true (by kernel_rfl)) (by kernel_rfl) rfl (by kernel_rfl) (by kernel_rfl) Tryz.underlying3
theorem tabs_of {W:World} (h:laidMet Tryz.prog laidL W):Lib.Utf8Tabs 6 7 W :=
  utf8Tabs_of_reads lays260 u8x (Lib.laidMet.reads h (List.mem_of_getElem? (i:=9) (by rw [← firstD];rfl))) (Lib.laidMet.reads h (List.mem_of_getElem? (i:=3) (by rw [← acceptD];rfl)))
theorem case_of {W:World} (h:laidMet Tryz.prog laidL W):Lib.CaseVar 5 Lib.caseA W :=
  caseVar_of_reads lays274 Tryz.lays159.t206 casex (Lib.laidMet.reads h (List.mem_of_getElem? (i:=8) (by rw [← caseD];rfl)))
theorem space_of {W : World} (h : laidMet Tryz.prog laidL W) : Lib.TabIs Tryz.prog W "strings.asciiSpace" .u8 Lib.asciiSpaceTab := by
  have h7 : laidMet Tryz.prog (("strings.asciiSpace", Rows.laid_strings_asciiSpace) :: [("unicode.CaseRanges", Rows.laid_unicode_CaseRanges), ("unicode/utf8.first", Rows.laid_unicode_utf8_first)]) W := h.tail.tail.tail.tail.tail.tail.tail
  rw [spaceD] at h7
  exact Lib.tabIs_of_head (g:=0) (t:=185) (e:=5) (n:=256) (by kernel_rfl) (by kernel_rfl) (by kernel_rfl) Tryz.underlying5 (by kernel_rfl) (by kernel_rfl) h7
theorem errs_of {W:World} (h:laidMet Tryz.prog laidL W):Errs W:=by
  have h4 : laidMet Tryz.prog (("strconv.ErrRange", Rows.laid_strconv_ErrRange) :: _) W := h.tail.tail.tail.tail
  have h5 : laidMet Tryz.prog (("strconv.ErrSyntax", Rows.laid_strconv_ErrSyntax) :: _) W := h4.tail
  obtain ⟨a,s,hv,hc,-⟩:=laid_sentinel (g:=3) (ti:=151) h4 (by kernel_rfl) (by kernel_rfl) Tryz.underlying151 rowErr Tryz.underlying238 Tryz.underlying240 rfl rfl Tryz.underlying9 (by kernel_rfl) (by kernel_rfl)
  obtain ⟨a2,s2,hv2,hc2,-⟩:=laid_sentinel (g:=2) (ti:=151) h5 (by kernel_rfl) (by kernel_rfl) Tryz.underlying151 rowErr Tryz.underlying238 Tryz.underlying240 rfl rfl Tryz.underlying9 (by kernel_rfl) (by kernel_rfl)
  have e3 := World.var?_cell (by kernel_rfl : Tryz.prog.globalNamed "strconv.ErrRange" = some 3) hv 0
  have e2 := World.var?_cell (by kernel_rfl : Tryz.prog.globalNamed "strconv.ErrSyntax" = some 2) hv2 0
  exact ⟨cell_lt e3,⟨_,e2,.inr ⟨_,_,rfl⟩⟩,_,e3,.inr ⟨_,_,rfl⟩⟩
theorem laid_of {W:World} (hsh:W.ShapedOpen Tryz.prog) (h:laidMetH Tryz.prog laidL W):Laid W:=by
  rw [MakeChecks.laidMetH_plain _ _ _ (by kernel_rfl)] at h
  have ht:=tabs_of h
  exact ⟨max_int W hsh,space_of h,errs_of h,ht,case_of h,cell_lt (ht.2 0 (by decide)).1⟩
end Go.Proofs.YtjnafjgonoficaaGreatDoor
namespace Go.Proofs.YtjnafjgonoficaaGreatDoor
open Go.ChangeShapes Go.WideShapes Go.ChangeAt Go.RowKit Go.WideMaps Go.WideElems
theorem returns_and_shaped {H:Type} {enc:TypeId × Value → H} {a:Assume} {C:Checked} {os:Os} {f:FuncId} {fn:Func} {s:ChangeSpec} {conds:List PathCond} {apart fresh handsOn again:Bool} {X:World → Array Value → Prop}
    (hX:∀ (w w':World) (args:Array Value),w.heap=w'.heap → X w args → X w' args)
    (own:ownKnob C.prog.godebug=none) (started:os.Started) (noInit:C.prog.inits.idxOf? f=none) (hfn:C.prog.funcs[f]? = some fn)
    (witness:∃ (w:World) (tape:Tape) (i:Input),w.os=os∧(w.forCall tape i).Shaped C.prog∧i.vars=[]∧Input.okWide C.prog (w.forCall tape i) .any w.heap.size f i ∧
      ((s.pre enc C.prog fn conds apart (w.forCall tape i).memory i.args∧X (w.forCall tape i).memory i.args)∧sizedMet enc C.prog fn (OpenSpec.ofChange s) apart (w.forCall tape i).memory i.args)∧a.holds C.prog (lone (Frame.enter C.prog f i.args .normal) [] (w.forCall tape i)))
    (contract:∀ (W:World) (base:Nat) (args:Array Value) (ds gs:List (DataW H)) (before:List MemPlace),
      (∀ (j:Nat) t v,fn.params[j]? = some t → args[j]? = some v → Value.okWide C.prog W .any base t v) →
      DataW.Whole enc C.prog fn.params.toList s.vars apart W args.toList ds gs before →
      (DataW.weightsEach C.prog (fn.params.toList ++ s.plain.varTypes C.prog) (ds ++ gs)).all (· ≤ reachBytes)=true → X W args → W.ShapedOpen C.prog →
      Calls C.prog f args W fun e W' => ∃ v,e=.returned v∧s.post enc C.prog fn apart fresh handsOn again W args v W') :
    ReturnsInHanded a C os f .any (fun w args=>(s.pre enc C.prog fn conds apart w args∧X w args)∧sizedMet enc C.prog fn (OpenSpec.ofChange s) apart w args) (s.post enc C.prog fn apart fresh handsOn again):=by
  refine returnsInHanded_of_calls own started noInit witness ?_
  intro w tape i _ hsh _ hok hpre hholds
  obtain ⟨_,_,_,fn',hfn',_,_,_,_,hval⟩:=hok
  have e:fn'=fn:=Option.some.inj (hfn'.symm.trans hfn)
  subst e
  obtain ⟨⟨⟨ds,gs,before,hw,hc⟩,hx⟩,hz⟩:=hpre
  have hw':=DataW.Whole.of_heap (w':=w.forCall tape i) (by rfl) hw
  refine (contract (w.forCall tape i) w.heap.size i.args ds gs before hval hw' (hz.weights hw) (hX _ _ _ (by rfl) hx) hsh).mono fun e W' ⟨v,he,hp⟩ => ?_
  subst he
  exact ChangeSpec.post_blind hp
noncomputable def startW (os:Os):World:=World.laidAll Tryz.prog os laidL
theorem start_met (os:Os) (args:Array Value):laidMetH Tryz.prog laidL ((startW os).forCall (fun _ _=>0) ⟨#[],args,[]⟩).memory:=by
  rw [MakeChecks.laidMetH_plain _ _ _ (by kernel_rfl)]
  exact laidMet_laidAll _ (by kernel_rfl) (by kernel_rfl)
theorem start_shaped (os:Os) (args:Array Value):((startW os).forCall (fun _ _=>0) ⟨#[],args,[]⟩).Shaped Tryz.prog:=World.shaped_of_ZipB (by kernel_rfl) (by kernel_rfl)
end Go.Proofs.YtjnafjgonoficaaGreatDoor
namespace Go.Proofs.YtjnafjgonoficaaGreatDoor
open Go.RowKit Go.Proofs.YtjnafjgonoficaaGreatDoorW.PrintWords
open Go.Maps
def MapI (w:World) (b n:Nat) (F:Int → Option Int):Prop:=∃ D:DataW Unit,w.ownsMap Tryz.prog 3 (plainElem Tryz.prog 3) b n D ∧
  ∀ i:Int,Maps.has D (.int .i64 i)=(F i).isSome∧D.atKey (.int .i64 i) (.lit (.int .i64 0))=.lit (.int .i64 ((F i).getD 0))
def MapB (w:World) (b n:Nat) (F:Int → Bool):Prop:=∃ D:DataW Unit,w.ownsMap Tryz.prog 3 (plainElem Tryz.prog 4) b n D ∧
  ∀ i:Int,D.atKey (.int .i64 i) (.lit (.bool false))=.lit (.bool (F i))
theorem keyed3:Keyed Tryz.prog 3:=int_keyed Tryz.underlying3
theorem zero3 (w:World):(zeroValue 3).run Tryz.prog w=.ok (.int .i64 0) w:=by kernel_rfl
theorem zero4 (w:World):(zeroValue 4).run Tryz.prog w=.ok (.bool false) w:=by kernel_rfl
theorem mapI_made (w:World):MapI (w.alloc (.map #[] 0)) w.heap.size 0 (fun _=>none):=⟨.map [],World.ownsMap_made _ _ _ _,fun i=>⟨rfl,rfl⟩⟩
theorem mapB_made (w:World):MapB (w.alloc (.map #[] 0)) w.heap.size 0 (fun _=>false):=⟨.map [],World.ownsMap_made _ _ _ _,fun i=>rfl⟩
theorem MapI.kept {w w':World} {b n:Nat} {F:Int → Option Int} {row:Option Nat} (h:MapI w b n F) (hg:w.grownBy w' row) (hne:some b ≠ row):MapI w' b n F:=by
  obtain ⟨D,h1,h2⟩:=h
  exact ⟨D,h1.kept hg hne,h2⟩
theorem MapB.kept {w w':World} {b n:Nat} {F:Int → Bool} {row:Option Nat} (h:MapB w b n F) (hg:w.grownBy w' row) (hne:some b ≠ row):MapB w' b n F:=by
  obtain ⟨D,h1,h2⟩:=h
  exact ⟨D,h1.kept hg hne,h2⟩
theorem wf64 {x:Int} (h1:-9223372036854775808 ≤ x) (h2:x ≤ 9223372036854775807):(Lit.int .i64 x).wf=true:=WalkArith.wf_i64 (by omega)
theorem MapI.look {w:World} {b n:Nat} {F:Int → Option Int} (h:MapI w b n F) (i:Int) (hw:(Lit.int .i64 i).wf=true) :
    (Instr.lookup 111 (.map (some b)) (.int .i64 i) true).run Tryz.prog w=.ok (.tuple #[.int .i64 ((F i).getD 0),.bool (F i).isSome]) w:=by
  obtain ⟨D,h1,h2⟩:=h
  obtain ⟨v,ps,hrun,hv⟩:=h1.look_ok keyed3 Tryz.underlying111 (zero3 w) (plainElem_int Tryz.underlying3 (by decide)) (keyOf_int_mk Tryz.underlying3 hw)
  obtain ⟨c,rfl,hc,-⟩:=plainElem_int_inv Tryz.underlying3 hv
  rw [(h2 i).2] at hc
  simp at hc
  rw [hrun,(h2 i).1,hc.1]
theorem pbool_inv {v:Value} {x:Bool} {ps:List MemPlace} (h:plainElem (H:=Unit) Tryz.prog 4 v=some (.lit (.bool x),ps)):v=.bool x:=by
  have e:=Tryz.underlying4
  unfold plainElem at h
  generalize Tryz.prog.underlying 4=u at e h
  subst e
  cases v <;> simp at h
  rw [h.1]
theorem MapB.look {w:World} {b n:Nat} {F:Int → Bool} (h:MapB w b n F) (i:Int) (hw:(Lit.int .i64 i).wf=true) :
    (Instr.lookup 112 (.map (some b)) (.int .i64 i) false).run Tryz.prog w=.ok (.bool (F i)) w:=by
  obtain ⟨D,h1,h2⟩:=h
  obtain ⟨v,ps,hrun,hv⟩:=h1.lookup keyed3 Tryz.underlying112 (zero4 w) (plainElem_bool Tryz.underlying4 false) (keyOf_int_mk Tryz.underlying3 hw)
  rw [h2 i] at hv
  rw [hrun]
  exact congrArg (fun z=>Result.ok z w) (pbool_inv hv)
theorem isKeyInt (i:Int):WideAt.IsKeyLit (.int .i64 i):=by simp [WideAt.IsKeyLit]
theorem MapI.put {w:World} {b n:Nat} {F:Int → Option Int} (h:MapI w b n F) (hn:n < maxLen) (i x:Int) (hw:(Lit.int .i64 i).wf=true) (hx:(Lit.int .i64 x).wf=true) :
    ∃ w',(Instr.mapUpdate 111 (.map (some b)) (.int .i64 i) (.int .i64 x)).run Tryz.prog w=.ok () w'∧MapI w' b (n + 1) (fun j=>if j=i then some x else F j)∧w.grownBy w' (some b):=by
  obtain ⟨D,h1,h2⟩:=h
  obtain ⟨w',hrun,h3,h4⟩:=h1.update keyed3 Tryz.underlying111 hn (keyOf_int_mk Tryz.underlying3 hw) (plainElem_int Tryz.underlying3 hx)
  refine ⟨w',hrun,⟨_,h3,fun j => ?_⟩,h4⟩
  by_cases hj:j=i
  · subst hj
    dsimp only
    rw [if_pos rfl,atKey_put_same h1.isMap (isKeyInt j),has_put_same h1.isMap (isKeyInt j)]
    exact ⟨rfl,rfl⟩
  · have hne:(Lit.int .i64 j) ≠ .int .i64 i:=fun e=>hj (by injection e)
    dsimp only
    rw [if_neg hj,atKey_put_other hne,has_put_other hne]
    exact h2 j
theorem MapB.put {w:World} {b n:Nat} {F:Int → Bool} (h:MapB w b n F) (hn:n < maxLen) (i:Int) (x:Bool) (hw:(Lit.int .i64 i).wf=true) :
    ∃ w',(Instr.mapUpdate 112 (.map (some b)) (.int .i64 i) (.bool x)).run Tryz.prog w=.ok () w'∧MapB w' b (n + 1) (fun j=>if j=i then x else F j)∧w.grownBy w' (some b):=by
  obtain ⟨D,h1,h2⟩:=h
  obtain ⟨w',hrun,h3,h4⟩:=h1.update keyed3 Tryz.underlying112 hn (keyOf_int_mk Tryz.underlying3 hw) (plainElem_bool Tryz.underlying4 x)
  refine ⟨w',hrun,⟨_,h3,fun j => ?_⟩,h4⟩
  by_cases hj:j=i
  · subst hj
    dsimp only
    rw [if_pos rfl,atKey_put_same h1.isMap (isKeyInt j)]
  · have hne:(Lit.int .i64 j) ≠ .int .i64 i:=fun e=>hj (by injection e)
    dsimp only
    rw [if_neg hj,atKey_put_other hne]
    exact h2 j
end Go.Proofs.YtjnafjgonoficaaGreatDoor
namespace Go.Proofs.YtjnafjgonoficaaGreatDoor
open Go.RowKit Go.Proofs.YtjnafjgonoficaaGreatDoorW.PrintWords
def pairCells (l:List (Int × Int)):List Value:=l.flatMap fun p=>[.int .i64 p.1,.int .i64 p.2]
theorem pairCells_one (L:List (Int × Int)):∀ u ∈ pairCells L,u.oneCell'=true:=by
  intro u hu
  unfold pairCells at hu
  obtain ⟨t,-,ht⟩:=List.mem_flatMap.1 hu
  simp at ht
  rcases ht with rfl | rfl <;> rfl
theorem pairCells_len (L:List (Int × Int)):(pairCells L).length=L.length * 2:=by
  unfold pairCells
  induction L with
  | nil=>rfl
  | cons t r ih=>rw [List.flatMap_cons,List.length_append,ih,List.length_cons];simp;omega
theorem pairCells_app (D L:List (Int × Int)):pairCells (D ++ L)=pairCells D ++ pairCells L:=List.flatMap_append
theorem info58:(Tryz.prog.info? 58).map (fun i=>(i.zero,i.size,i.bytes))=some (some (.agg #[.int .i64 0,.int .i64 0]),2,16):=by kernel_rfl
theorem grown_alloc_new {w w1:World} {o:Obj} (h:(w.alloc o).grownBy w1 (some w.heap.size)):w.grownBy w1 none :=
  ⟨h.os,h.tape,h.output,by have:=h.size;simp at this;omega,fun k hk _=>(h.block k (by simp;omega) (by simp;omega)).trans (by
    have:=(World.grownBy_alloc w o none).block k hk (by simp)
    exact this)⟩
set_option maxRecDepth 100000 in
theorem clone_calls (v:Value) (l:List (Int × Int)) (w:World) (base:Nat) (h:w.ownsRow base 58 2 v l.length (pairCells l)) (hl:l.length ≤ 1000000) :
    Calls Tryz.prog 66 #[v] w fun e w' => ∃ v',e=.returned v'∧w'.ownsRow w.heap.size 58 2 v' l.length (pairCells l)∧w.grownBy w' none:=by
  have H:=mkA h
  rcases h.2 with ⟨rfl,hn⟩ | ⟨g,cap,cur,rfl,hb,hh,h1,h2,-,-⟩
  · obtain rfl:l=[]:=List.eq_nil_of_length_eq_zero hn
    clear h hn
    have hq:=fun W (a:Option Addr) (n c:Nat) => @Lib.run_eql_slice_nil Tryz.prog W 55 58 a n c 0 0 Tryz.underlying55
    go_enter Tryz.func66,Tryz.ntmps66
    go_wp2_with fail
    go_ret
    exact ⟨_,rfl,own_nil _ _ _ _,World.grownBy.refl _ _⟩
  · obtain ⟨i0,hi,hz0,hz1,hz2⟩:=info_parts info58
    have hc:=h.cells (g:=g) rfl
    obtain ⟨m,hm⟩:∃ m,l.length=m:=⟨_,rfl⟩
    have hgl:=blk_lt hh
    have HC:=mkA hc
    have HM:=mkA hm
    rw [hm] at h1 hl ⊢
    clear h hh hc hm
    have hq:=fun W (a:Option Addr) (n c:Nat) => @Lib.run_eql_slice_nil Tryz.prog W 55 58 a n c 0 0 Tryz.underlying55
    go_enter Tryz.func66,Tryz.ntmps66
    go_wp2_with (at_builtin;refine wpList_append_own_at _ rfl (.tmp 5) (.tmp 6) 55 rfl w.heap.size 58 i0 _ 2 16 Tryz.underlying55 hi hz0 hz1 hz2 rfl (by omega) (.slice (some ⟨w.heap.size,0,none⟩) 0 0) 0 [] (by rfl) (World.ownsRow_lit (base:=w.heap.size) (e:=58) (size:=2) w #[] 0 (Nat.le_refl _) (by unfold maxLen;omega) rfl) ⟨g,0,none⟩ m cap (pairCells l) (by rfl) (by rw [pairCells_len,HM.out]) (fun j u hj=>(by
        rw [add_none]
        have h3:=HC.out j u hj
        rw [add_none] at h3
        exact (World.cell?_alloc_lt w _ _ hgl).trans h3)) (pairCells_one l) (by unfold maxLen;omega) (by omega) (by simp) ?_;intro v1 w1 hv1 hg1 hnil1 hat1;have HV1:=mkA hv1;have HG1:=mkA hg1;clear hv1 hg1 hnil1 hat1)
    go_ret
    exact ⟨_,rfl,by simpa using HV1.out,grown_alloc_new HG1.out⟩
def Chain (w:World) (base:Nat):Value → List (Nat × Nat × Bool) → Nat → Prop
  | p,[],_=>p=.pointer none
  | p,(n,b,e) :: r,hi => ∃ blk q,p=.pointer (some ⟨blk,0,none⟩)∧base ≤ blk∧blk < hi∧w.heap[blk]? = some (.cells #[.int .i64 n,.int .i64 b,.bool e,q] 82 (0,0))∧Chain w base q r blk
def gcells (ls:List Value) (gs:List Lx.G):List Value:=(ls.zip gs).flatMap fun x=>[x.1,.int .i64 x.2.br,.int .i64 x.2.par,.int .i64 x.2.bch]
def RowsAt (w:World) (base:Nat) (ls:List Value) (gs:List Lx.G):Prop :=
  (∀ (i:Nat) (lv:Value) (g:Lx.G),ls[i]? = some lv → gs[i]? = some g → g.lines ≠ []∧w.ownsRow base 3 1 lv g.lines.length (intCells g.lines)) ∧
  ∀ (i j:Nat) (lv lv':Value),i ≠ j → ls[i]? = some lv → ls[j]? = some lv' → lv.ownBlock ≠ lv'.ownBlock
def FS (w:World) (base f:Nat) (S:Lx.GS):Prop:=∃ v p ls,w.heap[f]? = some (.cells #[v,p] 80 (0,0))∧base ≤ f∧ls.length=S.gs.length∧w.ownsRow base 41 4 v S.gs.length (gcells ls S.gs)∧RowsAt w base ls S.gs ∧
  Chain w base p S.st w.heap.size∧∀ x ∈ S.st,x.1 < S.gs.length
theorem own_kept_ty {w w':World} {base k:Nat} {e t:TypeId} {size n:Nat} {v:Value} {xs:List Value} {cs:Array Value} (h:w.ownsRow base e size v n xs) (hg:w.grownBy w' (some k)) (hk:w.heap[k]? = some (.cells cs t (0,0))) (hne:e ≠ t):w'.ownsRow base e size v n xs :=
  h.kept hg (.inr fun e1=>own_ne h hk hne e1.symm)
theorem own_kept_no {w w':World} {base:Nat} {e:TypeId} {size n:Nat} {v:Value} {xs:List Value} (h:w.ownsRow base e size v n xs) (hg:w.grownBy w' none):w'.ownsRow base e size v n xs:=h.kept hg (Classical.em _)
theorem own_kept_row {w w':World} {base base2:Nat} {e t:TypeId} {size size2 n n2:Nat} {v u:Value} {xs ys:List Value} (h:w.ownsRow base e size v n xs) (hu:w.ownsRow base2 t size2 u n2 ys) (hg:w.grownBy w' u.ownBlock) (hne:e ≠ t):w'.ownsRow base e size v n xs:=by
  rcases hu.2 with ⟨rfl,-⟩ | ⟨g,cap,cur,rfl,hb,hh,-⟩
  · exact own_kept_no h hg
  · exact own_kept_ty h hg hh hne
theorem RowsAt.no {w w':World} {base:Nat} {ls:List Value} {gs:List Lx.G} (h:RowsAt w base ls gs) (hg:w.grownBy w' none):RowsAt w' base ls gs :=
  ⟨fun i lv g a b=>⟨(h.1 i lv g a b).1,own_kept_no (h.1 i lv g a b).2 hg⟩,h.2⟩
theorem RowsAt.ty {w w':World} {base k:Nat} {ls:List Value} {gs:List Lx.G} {t:TypeId} {cs:Array Value} (h:RowsAt w base ls gs) (hg:w.grownBy w' (some k)) (hk:w.heap[k]? = some (.cells cs t (0,0))) (hne:3 ≠ t):RowsAt w' base ls gs :=
  ⟨fun i lv g a b=>⟨(h.1 i lv g a b).1,own_kept_ty (h.1 i lv g a b).2 hg hk hne⟩,h.2⟩
theorem RowsAt.row {w w':World} {base base2:Nat} {ls:List Value} {gs:List Lx.G} {t:TypeId} {size2 n2:Nat} {u:Value} {ys:List Value} (h:RowsAt w base ls gs) (hu:w.ownsRow base2 t size2 u n2 ys) (hg:w.grownBy w' u.ownBlock) (hne:3 ≠ t):RowsAt w' base ls gs :=
  ⟨fun i lv g a b=>⟨(h.1 i lv g a b).1,own_kept_row (h.1 i lv g a b).2 hu hg hne⟩,h.2⟩
theorem RowsAt.push {w:World} {base:Nat} {ls:List Value} {gs:List Lx.G} {lv:Value} {g:Lx.G} (h:RowsAt w base ls gs) (hl:ls.length=gs.length) (hg:g.lines ≠ []) (ho:w.ownsRow base 3 1 lv g.lines.length (intCells g.lines))
    (hd:∀ (i:Nat) (l:Value),ls[i]? = some l → l.ownBlock ≠ lv.ownBlock):RowsAt w base (ls ++ [lv]) (gs ++ [g]):=by
  constructor
  · intro i l x h1 h2
    by_cases hi:i < ls.length
    · rw [List.getElem?_append_left hi] at h1
      rw [List.getElem?_append_left (by omega)] at h2
      exact h.1 i l x h1 h2
    · have hi2:i=ls.length:=by
        have:=(List.getElem?_eq_some_iff.1 h1).1
        simp at this;omega
      subst hi2
      rw [List.getElem?_append_right (Nat.le_refl _),Nat.sub_self] at h1
      rw [hl,List.getElem?_append_right (Nat.le_refl _),Nat.sub_self] at h2
      simp at h1 h2
      subst h1 h2
      exact ⟨hg,ho⟩
  · intro i j l l' hij h1 h2
    by_cases hi:i < ls.length
    · rw [List.getElem?_append_left hi] at h1
      by_cases hj:j < ls.length
      · rw [List.getElem?_append_left hj] at h2
        exact h.2 i j l l' hij h1 h2
      · rw [List.getElem?_append_right (by omega)] at h2
        have hj0:j - ls.length=0:=by
          have:=(List.getElem?_eq_some_iff.1 h2).1
          simp at this;omega
        rw [hj0] at h2
        simp at h2
        subst h2
        exact hd i l h1
    · rw [List.getElem?_append_right (by omega)] at h1
      have hi0:i - ls.length=0:=by
        have:=(List.getElem?_eq_some_iff.1 h1).1
        simp at this;omega
      rw [hi0] at h1
      simp at h1
      subst h1
      by_cases hj:j < ls.length
      · rw [List.getElem?_append_left hj] at h2
        exact (hd j l' h2).symm
      · have:=(List.getElem?_eq_some_iff.1 h2).1
        simp at this;omega
theorem gcells_push (ls:List Value) (gs:List Lx.G) (lv:Value) (g:Lx.G) (h:ls.length=gs.length):gcells (ls ++ [lv]) (gs ++ [g])=gcells ls gs ++ [lv,.int .i64 g.br,.int .i64 g.par,.int .i64 g.bch]:=by
  unfold gcells
  rw [List.zip_append h,List.flatMap_append]
  rfl
theorem Chain.kept {w w':World} {base:Nat} {row:Option Nat} (hg:w.grownBy w' row):∀ (st:List (Nat × Nat × Bool)) (p:Value) (hi hi':Nat),Chain w base p st hi → hi ≤ hi' → (∀ k cs,row=some k → k < hi → w.heap[k]? ≠ some (.cells cs 82 (0,0))) → Chain w' base p st hi'
  | [],p,hi,hi',h,_,_=>h
  | (n,b,e) :: r,p,hi,hi',h,hh,hn=>by
    obtain ⟨blk,q,e1,e2,e3,e4,e5⟩:=h
    refine ⟨blk,q,e1,e2,by omega,(hg.block blk (blk_lt e4) (fun e=>hn blk _ e.symm e3 e4)).trans e4,?_⟩
    exact Chain.kept hg r q blk blk e5 (Nat.le_refl _) (fun k cs hk hlt=>hn k cs hk (by omega))
theorem fs_push {w2 w1:World} {base f i N R0 WS gg cap c:Nat} {A:Option Addr} {par bch:Int} {now:Value} {ls:List Value} {gs:List Lx.G} {st:List (Nat × Nat × Bool)}
    (hll:ls.length=N) (hN:gs.length=N) (hbf:base ≤ f) (hb0:base ≤ R0) (hbW:base ≤ WS) (hnew:∀ (i:Nat) (l:Value),ls[i]? = some l → l.ownBlock ≠ some R0)
    (HF2:w2.heap[f]? = some (.cells #[.slice A N c,.pointer (some ⟨WS,0,none⟩)] 80 (0,0))) (HR:w2.heap[R0]? = some (.cells #[.int .i64 i] 3 (0,0)))
    (HO:w2.heap[WS]? = some (.cells #[.int .i64 N,.int .i64 0,.bool false,now] 82 (0,0))) (HROWS:RowsAt w2 base ls gs) (HCH:Chain w2 base now st WS) (hlt:∀ x ∈ st,x.1 < N)
    (HOWN2:w2.ownsRow base 41 4 (.slice A N c) N (gcells ls gs)) (hg:w2.grownBy w1 (Value.ownBlock (.slice A N c)))
    (hown1:w1.ownsRow base 41 4 (.slice (some ⟨gg,0,none⟩) (N + 1) cap) (N + 1) (gcells ls gs ++ [.slice (some ⟨R0,0,none⟩) 1 1,.int .i64 0,.int .i64 par,.int .i64 bch])) :
    FS (w1.setCell ⟨f,0,none⟩ (.slice (some ⟨gg,0,none⟩) (N + 1) cap)) base f ⟨gs ++ [⟨[(i:Int)],0,par,bch⟩],(N,0,false) :: st⟩:=by
  have hf1:=(hg.block f (blk_lt HF2) (own_ne HOWN2 HF2 (by decide))).trans HF2
  have hr1:=(hg.block R0 (blk_lt HR) (own_ne HOWN2 HR (by decide))).trans HR
  have ho1:=(hg.block WS (blk_lt HO) (own_ne HOWN2 HO (by decide))).trans HO
  have hset:w1.grownBy (w1.setCell ⟨f,0,none⟩ (.slice (some ⟨gg,0,none⟩) (N + 1) cap)) (some f):=grown_set (World.grownBy.refl _ _) _ _
  have hne1:R0 ≠ f:=fun e=>by rw [e,HF2] at HR;simp at HR
  have hne2:WS ≠ f:=fun e=>by rw [e,HF2] at HO;simp at HO
  have hrow1:=HROWS.row HOWN2 hg (by decide)
  have hrow2:=hrow1.ty hset hf1 (by decide)
  refine ⟨_,_,ls ++ [.slice (some ⟨R0,0,none⟩) 1 1],blk_set hf1 0 _,hbf,?_,?_,?_,?_,?_⟩
  · simp only [List.length_append,List.length_singleton];omega
  · have:=own_kept_ty hown1 hset hf1 (by decide)
    rw [gcells_push ls gs _ _ (by omega)]
    simp only [List.length_append,List.length_singleton,hN]
    exact this
  · refine hrow2.push (by omega) (by simp) ?_ hnew
    have hb:=(hset.block R0 (blk_lt hr1) (by simpa using hne1)).trans hr1
    exact ⟨rfl,.inr ⟨R0,1,_,rfl,hb0,hb,by simp,by unfold maxLen;omega,rfl,rfl⟩⟩
  · refine ⟨WS,now,rfl,hbW,?_,(hset.block WS (blk_lt ho1) (by simpa using hne2)).trans ho1,?_⟩
    · have:=blk_lt ho1;have:=hset.size;omega
    · have h1:=Chain.kept hg st now WS WS HCH (Nat.le_refl _) (fun k cs hk hl e=>own_ne HOWN2 e (by decide) hk.symm)
      exact Chain.kept hset st now WS WS h1 (Nat.le_refl _) (fun k cs hk hl e=>by
        have:=Option.some.inj hk
        subst this
        rw [hf1] at e
        simp at e)
  · intro x hx
    simp only [List.length_append,List.length_singleton,hN]
    rcases List.mem_cons.1 hx with rfl | hx
    · exact Nat.lt_succ_self _
    · exact Nat.lt_succ_of_lt (hlt x hx)
theorem info41:(Tryz.prog.info? 41).map (fun i=>(i.zero,i.size,i.bytes))=some (some (.agg #[.slice none 0 0,.int .i64 0,.int .i64 0,.int .i64 0]),4,48):=by kernel_rfl
set_option maxRecDepth 100000 in
set_option maxHeartbeats 4000000 in
theorem begin_nil (w:World) (base f i:Nat) (S:Lx.GS) (h:FS w base f S) (hs:S.st=[]) (hN:S.gs.length ≤ 100000) :
    Calls Tryz.prog 65 #[.pointer (some ⟨f,0,none⟩),.int .i64 i] w fun e w'=>e=.returned (.tuple #[])∧FS w' base f ⟨S.gs ++ [⟨[(i:Int)],0,-1,0⟩],[(S.gs.length,0,false)]⟩∧Below base w w':=by
  obtain ⟨v,p,ls,hf,hbf,hll,hown,hrows,hch,hlt⟩:=h
  obtain ⟨A,c,rfl⟩:=own_slice hown
  obtain ⟨N,hN0⟩:∃ N,S.gs.length=N:=⟨_,rfl⟩
  rw [hN0] at hf hown hll hlt hN ⊢
  rw [hs] at hch
  obtain rfl:p=.pointer none:=hch
  have c0:w.cell? ⟨f,0,none⟩=some (.slice A N c):=by rw [blk_cell hf];rfl
  have c1:w.cell? ⟨f,1,none⟩=some (.pointer none):=by rw [blk_cell hf];rfl
  have hfl:=blk_lt hf
  have hfr1:=blk_frozen hf 1
  have hfr0:=blk_frozen hf 0
  have HF0:=mkA hf
  have HOWN0:=mkA hown
  have HROWS:=mkA hrows
  have HN0:=mkA hN0
  clear hs hf hown hrows hlt hN0
  go_enter Tryz.func65,Tryz.ntmps65
  go_wp2_with fail
  refine wp_gen (fun W=>W.heap[w.heap.size]? = some (.cells #[.int .i64 i] 3 (0,0))∧W.heap[w.heap.size + 1]? = some (.cells #[.slice (some ⟨w.heap.size,0,none⟩) 1 1,.int .i64 0,.int .i64 (-1),.int .i64 0] 41 (0,0))∧w.grownBy W none) ⟨?_,?_,?_⟩ ?_
  · exact blk_alloc (blk_new_at _ _ _ rfl) _
  · exact blk_new_at _ _ _ (by simp)
  · exact grown_trans (World.grownBy_alloc _ _ none) (World.grownBy_alloc _ _ none)
  rintro W ⟨hr1,hg1,hgr⟩
  have HGR:=mkA hgr
  have hsz:=hgr.size
  have hlt1:=blk_lt hg1
  have hf1:=(hgr.block f hfl (by simp)).trans HF0.out
  have HF:=mkA hf1
  have HG:=mkA hg1
  have HR1:=mkA hr1
  have HOWN:=mkA (own_kept_no HOWN0.out hgr)
  have d0:W.cell? ⟨f,0,none⟩=some (.slice A N c):=by rw [blk_cell hf1];rfl
  have d1:W.cell? ⟨f,1,none⟩=some (.pointer none):=by rw [blk_cell hf1];rfl
  have e0:=blk_frozen hf1 0
  have e1:=blk_frozen hf1 1
  have hfW:=blk_lt hf1
  have hnf:f ≠ W.heap.size:=by omega
  clear c0 c1 hfr0 hfr1 hf1 hg1 hgr hr1
  go_region
  go_wp2_with fail
  refine wp_gen (fun W2=>W2.heap[f]? = some (.cells #[.slice A N c,.pointer (some ⟨W.heap.size,0,none⟩)] 80 (0,0))∧W2.heap[w.heap.size + 1]? = some (.cells #[.slice (some ⟨w.heap.size,0,none⟩) 1 1,.int .i64 0,.int .i64 (-1),.int .i64 (0)] 41 (0,0)) ∧
    W2.heap[W.heap.size]? = some (.cells #[.int .i64 N,.int .i64 0,.bool false,.pointer none] 82 (0,0))∧W.grownBy W2 (some f)) ⟨?_,?_,?_,?_⟩ ?_
  · exact blk_alloc (blk_set HF.out 1 _) _
  · exact blk_alloc (blk_far HG.out (by simp;omega) _) _
  · exact blk_new_at _ _ _ (by simp)
  · exact grown_drew (grown_trans (grown_set (World.grownBy.refl _ _) _ _) (World.grownBy_alloc _ _ _))
  rintro W2 ⟨hf2,hg2,ho2,hgr2⟩
  obtain ⟨i0,hi0,hz0,hz1,hz2⟩:=info_parts info41
  have f0:W2.cell? ⟨f,0,none⟩=some (.slice A N c):=by rw [blk_cell hf2];rfl
  have p0:=blk_frozen hf2 0
  have g0:W2.cell? ⟨w.heap.size + 1,0,none⟩=some (.slice (some ⟨w.heap.size,0,none⟩) 1 1):=by rw [blk_cell hg2];rfl
  have g1:W2.cell? ⟨w.heap.size + 1,1,none⟩=some (.int .i64 0):=by rw [blk_cell hg2];rfl
  have g2:W2.cell? ⟨w.heap.size + 1,2,none⟩=some (.int .i64 (-1)):=by rw [blk_cell hg2];rfl
  have g3:W2.cell? ⟨w.heap.size + 1,3,none⟩=some (.int .i64 (0)):=by rw [blk_cell hg2];rfl
  have hfW2:=blk_lt hf2
  have hnf2:f ≠ W2.heap.size:=by omega
  have hownW2:=own_kept_ty HOWN.out hgr2 HF.out (by decide)
  have hnv:=own_ne hownW2 hf2 (by decide)
  have HF2:=mkA hf2
  have HO2:=mkA ho2
  have HGR2:=mkA hgr2
  have HOWN2:=mkA hownW2
  have hsz2:=hgr2.size
  clear d0 d1 e0 e1 hf2 hg2 ho2 hgr2 hownW2
  go_wp2_with fail
  go_region_law ((refine step_append_lies _ (by rfl) _ _ _ (by rfl) base 41 i0 _ 4 48 Tryz.underlying32 hi0 hz0 hz1 hz2 rfl (by omega) (.slice A N c) N (gcells ls S.gs) (by rfl) (by first | exact (HOWN2.out.alloc _).kept (grown_drew (World.grownBy.refl _ none)) (Classical.em _) | exact HOWN2.out.alloc _)
                          ⟨W2.heap.size,0,none⟩ 1 1 [.slice (some ⟨w.heap.size,0,none⟩) 1 1,.int .i64 0,.int .i64 (-1),.int .i64 (0)] (by rfl) (by rfl) (World.news_of_block (cs:=#[.slice (some ⟨w.heap.size,0,none⟩) 1 1,.int .i64 0,.int .i64 (-1),.int .i64 (0)]) (t:=41) (fr:=(0,0)) (heap_alloc_new W2 _)) (by simp [Value.oneCell'])
                          (by omega) (by unfold maxLen;omega) (by omega) (by simp;omega) (W2.heap.size + 1) (by simp) ?_;intro gg cap w1 hown1 hgrow hat hlt1;have hbw1:=(hgrow.block f (by simp;omega) hnv).trans (blk_alloc HF2.out _);have q0:=blk_frozen hbw1 0;have q1:w1.cell? ⟨f,0,none⟩=some (.slice A N c):=(by rw [blk_cell hbw1];rfl);have HBW1:=mkA hbw1;have HOWN1:=mkA hown1;have HGROW:=mkA hgrow;clear hbw1 hown1 hgrow hat))
  all_goals go_wp2_with fail
  all_goals go_end0
  all_goals
    have hrr:=(HGR2.out.block w.heap.size (by omega) (fun e=>by have:=Option.some.inj e;omega)).trans HR1.out
    have hg12:=grown_trans (grown_drew (World.grownBy_alloc W2 _ _)) HGROW.out
    have hb1:Below base w W:=(Below.refl _ _).grown HGR.out (by omega) (fun k hk=>by cases hk)
    have hb2:=hb1.grown HGR2.out (by omega) (fun k hk=>by cases hk;exact hbf)
    have hb3:=hb2.grown hg12 (by omega) (fun k hk=>own_base HOWN2.out k hk)
    refine ⟨rfl,?_,Below.setCell (p:=⟨f,0,none⟩) hb3 hbf _⟩
    exact fs_push hll HN0.out hbf (by omega) (by omega) (fun j l hj e=>by
      have hj2:j < S.gs.length:=by rw [HN0.out,← hll];exact (List.getElem?_eq_some_iff.1 hj).1
      have:=own_lt (HROWS.out.1 j l _ hj (List.getElem?_eq_getElem hj2)).2 _ e
      omega) HF2.out hrr HO2.out ((HROWS.out.no HGR.out).ty HGR2.out HF.out (by decide)) rfl (fun x hx=>by simp at hx) HOWN2.out hg12 HOWN1.out
theorem grown_set_new {w w':World} {row:Option Nat} {b:Nat} (h:w.grownBy w' row) (hb:w.heap.size ≤ b) (i:Nat) (v:Value):w.grownBy (w'.setCell ⟨b,i,none⟩ v) row :=
  ⟨h.os,h.tape,h.output,by simpa [World.setCell] using h.size,fun k hk hne=>(Below.heap_setCell _ _ _ _ (by simp;omega)).trans (h.block k hk hne)⟩
set_option maxRecDepth 100000 in
set_option maxHeartbeats 4000000 in
theorem begin_cons (w:World) (base f i:Nat) (S:Lx.GS) (h:FS w base f S) (n b:Nat) (el:Bool) (r:List (Nat × Nat × Bool)) (hs:S.st=(n,b,el) :: r) (hN:S.gs.length ≤ 100000) :
    Calls Tryz.prog 65 #[.pointer (some ⟨f,0,none⟩),.int .i64 i] w fun e w'=>e=.returned (.tuple #[])∧FS w' base f ⟨S.gs ++ [⟨[(i:Int)],0,n,b⟩],(S.gs.length,0,false) :: (n,b,el) :: r⟩∧Below base w w':=by
  obtain ⟨v,p,ls,hf,hbf,hll,hown,hrows,hch,hlt⟩:=h
  obtain ⟨A,c,rfl⟩:=own_slice hown
  obtain ⟨N,hN0⟩:∃ N,S.gs.length=N:=⟨_,rfl⟩
  rw [hN0] at hf hown hll hlt hN ⊢
  rw [hs] at hch
  obtain ⟨blk,q,rfl,hbk,hbl,hblk,hch2⟩:=hch
  have hch0:Chain w base (.pointer (some ⟨blk,0,none⟩)) ((n,b,el) :: r) w.heap.size:=⟨blk,q,rfl,hbk,hbl,hblk,hch2⟩
  have HCH:=mkA hch0
  rw [hs] at hlt
  have HLT:=mkA hlt
  have c0:w.cell? ⟨f,0,none⟩=some (.slice A N c):=by rw [blk_cell hf];rfl
  have c1:w.cell? ⟨f,1,none⟩=some (.pointer (some ⟨blk,0,none⟩)):=by rw [blk_cell hf];rfl
  have hfl:=blk_lt hf
  have HBLK:=mkA hblk
  have HF0:=mkA hf
  have HOWN0:=mkA hown
  have HROWS:=mkA hrows
  have HN0:=mkA hN0
  clear hs hf hown hrows hlt hN0 hch0 hch2 hblk
  go_enter Tryz.func65,Tryz.ntmps65
  go_wp2_with fail
  refine wp_gen (fun W=>W.heap[w.heap.size]? = some (.cells #[.int .i64 i] 3 (0,0))∧W.heap[w.heap.size + 1]? = some (.cells #[.slice (some ⟨w.heap.size,0,none⟩) 1 1,.int .i64 0,.int .i64 (-1),.int .i64 0] 41 (0,0))∧w.grownBy W none∧W.heap.size=w.heap.size + 2) ⟨?_,?_,?_,?_⟩ ?_
  · exact blk_alloc (blk_new_at _ _ _ rfl) _
  · exact blk_new_at _ _ _ (by simp)
  · exact grown_trans (World.grownBy_alloc _ _ none) (World.grownBy_alloc _ _ none)
  · simp
  rintro W0 ⟨hr0,hg0,hgr0,hsz0⟩
  have hf0:=(hgr0.block f hfl (by simp)).trans HF0.out
  have hk0:=(hgr0.block blk hbl (by simp)).trans HBLK.out
  have k0:W0.cell? ⟨blk,0,none⟩=some (.int .i64 n):=by rw [blk_cell hk0];rfl
  have k1:W0.cell? ⟨blk,1,none⟩=some (.int .i64 b):=by rw [blk_cell hk0];rfl
  have d1:W0.cell? ⟨f,1,none⟩=some (.pointer (some ⟨blk,0,none⟩)):=by rw [blk_cell hf0];rfl
  have t2:W0.cell? ⟨w.heap.size + 1,2,none⟩=some (.int .i64 (-1)):=by rw [blk_cell hg0];rfl
  have t3:W0.cell? ⟨w.heap.size + 1,3,none⟩=some (.int .i64 0):=by rw [blk_cell hg0];rfl
  have z2:=blk_frozen hg0 2
  have z3:=blk_frozen hg0 3
  have HR0:=mkA hr0
  have HG0:=mkA hg0
  have HGR0:=mkA hgr0
  have x1:blk ≠ w.heap.size + 1:=by omega
  have x2:f ≠ w.heap.size + 1:=by omega
  clear c0 c1 hr0 hg0 hgr0 hf0 hk0
  go_region
  go_wp2_with fail
  refine wp_gen (fun W=>W.heap[w.heap.size]? = some (.cells #[.int .i64 i] 3 (0,0))∧W.heap[w.heap.size + 1]? = some (.cells #[.slice (some ⟨w.heap.size,0,none⟩) 1 1,.int .i64 0,.int .i64 n,.int .i64 b] 41 (0,0))∧w.grownBy W none) ⟨?_,?_,?_⟩ ?_
  · exact blk_far (blk_far HR0.out (by simp) _) (by simp) _
  · exact blk_set (blk_set HG0.out 2 _) 3 _
  · exact grown_drew (grown_set_new (grown_set_new HGR0.out (by omega) _ _) (by omega) _ _)
  clear k0 k1 d1 t2 t3 z2 z3 x1 x2 hsz0
  rintro W ⟨hr1,hg1,hgr⟩
  have HGR:=mkA hgr
  have hsz:=hgr.size
  have hlt1:=blk_lt hg1
  have hf1:=(hgr.block f hfl (by simp)).trans HF0.out
  have HF:=mkA hf1
  have HG:=mkA hg1
  have HR1:=mkA hr1
  have HOWN:=mkA (own_kept_no HOWN0.out hgr)
  have HCH1:=mkA (Chain.kept hgr _ _ _ W.heap.size HCH.out hsz (fun k cs hk=>by cases hk))
  have d0:W.cell? ⟨f,0,none⟩=some (.slice A N c):=by rw [blk_cell hf1];rfl
  have d1:W.cell? ⟨f,1,none⟩=some (.pointer (some ⟨blk,0,none⟩)):=by rw [blk_cell hf1];rfl
  have e0:=blk_frozen hf1 0
  have e1:=blk_frozen hf1 1
  have hfW:=blk_lt hf1
  have hnf:f ≠ W.heap.size:=by omega
  clear hf1 hg1 hgr hr1
  go_region
  go_wp2_with fail
  refine wp_gen (fun W2=>W2.heap[f]? = some (.cells #[.slice A N c,.pointer (some ⟨W.heap.size,0,none⟩)] 80 (0,0))∧W2.heap[w.heap.size + 1]? = some (.cells #[.slice (some ⟨w.heap.size,0,none⟩) 1 1,.int .i64 0,.int .i64 (n),.int .i64 (b)] 41 (0,0)) ∧
    W2.heap[W.heap.size]? = some (.cells #[.int .i64 N,.int .i64 0,.bool false,.pointer (some ⟨blk,0,none⟩)] 82 (0,0))∧W.grownBy W2 (some f)) ⟨?_,?_,?_,?_⟩ ?_
  · exact blk_alloc (blk_set HF.out 1 _) _
  · exact blk_alloc (blk_far HG.out (by simp;omega) _) _
  · exact blk_new_at _ _ _ (by simp)
  · exact grown_drew (grown_trans (grown_set (World.grownBy.refl _ _) _ _) (World.grownBy_alloc _ _ _))
  rintro W2 ⟨hf2,hg2,ho2,hgr2⟩
  obtain ⟨i0,hi0,hz0,hz1,hz2⟩:=info_parts info41
  have f0:W2.cell? ⟨f,0,none⟩=some (.slice A N c):=by rw [blk_cell hf2];rfl
  have p0:=blk_frozen hf2 0
  have g0:W2.cell? ⟨w.heap.size + 1,0,none⟩=some (.slice (some ⟨w.heap.size,0,none⟩) 1 1):=by rw [blk_cell hg2];rfl
  have g1:W2.cell? ⟨w.heap.size + 1,1,none⟩=some (.int .i64 0):=by rw [blk_cell hg2];rfl
  have g2:W2.cell? ⟨w.heap.size + 1,2,none⟩=some (.int .i64 (n)):=by rw [blk_cell hg2];rfl
  have g3:W2.cell? ⟨w.heap.size + 1,3,none⟩=some (.int .i64 (b)):=by rw [blk_cell hg2];rfl
  have hfW2:=blk_lt hf2
  have hnf2:f ≠ W2.heap.size:=by omega
  have hownW2:=own_kept_ty HOWN.out hgr2 HF.out (by decide)
  have hnv:=own_ne hownW2 hf2 (by decide)
  have HF2:=mkA hf2
  have HO2:=mkA ho2
  have HGR2:=mkA hgr2
  have HOWN2:=mkA hownW2
  have hsz2:=hgr2.size
  clear d0 d1 e0 e1 hf2 hg2 ho2 hgr2 hownW2
  go_wp2_with fail
  go_region_law ((refine step_append_lies _ (by rfl) _ _ _ (by rfl) base 41 i0 _ 4 48 Tryz.underlying32 hi0 hz0 hz1 hz2 rfl (by omega) (.slice A N c) N (gcells ls S.gs) (by rfl) (by first | exact (HOWN2.out.alloc _).kept (grown_drew (World.grownBy.refl _ none)) (Classical.em _) | exact HOWN2.out.alloc _)
                          ⟨W2.heap.size,0,none⟩ 1 1 [.slice (some ⟨w.heap.size,0,none⟩) 1 1,.int .i64 0,.int .i64 (n),.int .i64 (b)] (by rfl) (by rfl) (World.news_of_block (cs:=#[.slice (some ⟨w.heap.size,0,none⟩) 1 1,.int .i64 0,.int .i64 (n),.int .i64 (b)]) (t:=41) (fr:=(0,0)) (heap_alloc_new W2 _)) (by simp [Value.oneCell'])
                          (by omega) (by unfold maxLen;omega) (by omega) (by simp;omega) (W2.heap.size + 1) (by simp) ?_;intro gg cap w1 hown1 hgrow hat hlt1;have hbw1:=(hgrow.block f (by simp;omega) hnv).trans (blk_alloc HF2.out _);have q0:=blk_frozen hbw1 0;have q1:w1.cell? ⟨f,0,none⟩=some (.slice A N c):=(by rw [blk_cell hbw1];rfl);have HBW1:=mkA hbw1;have HOWN1:=mkA hown1;have HGROW:=mkA hgrow;clear hbw1 hown1 hgrow hat))
  all_goals go_wp2_with fail
  all_goals go_end0
  all_goals
    have hrr:=(HGR2.out.block w.heap.size (by omega) (fun e=>by have:=Option.some.inj e;omega)).trans HR1.out
    have hg12:=grown_trans (grown_drew (World.grownBy_alloc W2 _ _)) HGROW.out
    have hb1:Below base w W:=(Below.refl _ _).grown HGR.out (by omega) (fun k hk=>by cases hk)
    have hb2:=hb1.grown HGR2.out (by omega) (fun k hk=>by cases hk;exact hbf)
    have hb3:=hb2.grown hg12 (by omega) (fun k hk=>own_base HOWN2.out k hk)
    refine ⟨rfl,?_,Below.setCell (p:=⟨f,0,none⟩) hb3 hbf _⟩
    exact fs_push hll HN0.out hbf (by omega) (by omega) (fun j l hj e=>by
      have hj2:j < S.gs.length:=by rw [HN0.out,← hll];exact (List.getElem?_eq_some_iff.1 hj).1
      have:=own_lt (HROWS.out.1 j l _ hj (List.getElem?_eq_getElem hj2)).2 _ e
      omega) HF2.out hrr HO2.out ((HROWS.out.no HGR.out).ty HGR2.out HF.out (by decide)) (Chain.kept HGR2.out _ _ _ W.heap.size HCH1.out (Nat.le_refl _) (fun k cs hk hl e=>by have:=Option.some.inj hk;subst this;rw [HF.out] at e;simp at e)) HLT.out HOWN2.out hg12 HOWN1.out
end Go.Proofs.YtjnafjgonoficaaGreatDoor
