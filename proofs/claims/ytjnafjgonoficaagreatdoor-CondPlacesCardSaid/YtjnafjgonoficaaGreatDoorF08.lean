/-
  One row of the finder's rows grows. Conditions: none.
  What one directive does to the finder: it opens a group, or is of no matter. Conditions: the finder's blocks are its own.
  What a directive that closes does to the finder where none is open. Conditions: the finder's blocks are its own.
  The finder's state after a store: a line more in a group, the top of the stack turned, a group's branches set, the stack popped. Conditions: none.
  What a directive that closes a branch does to the finder. Conditions: the finder's blocks are its own.
  What cond.Groups comes to. Conditions: the tokens lie in memory; they are short; the library's variables are as their text lays them.
  What cond.Groups comes to. Conditions: the tokens lie in memory; they are short; the library's variables are as their text lays them.
  What cond.places comes to, first half: the maps of a text's groups. Conditions: the groups lie in memory; their lines are small numbers.
-/
import Derived.Test.YtjnafjgonoficaaGreatDoorF07
import Derived.Test.YtjnafjgonoficaaGreatDoorF06
set_option linter.unusedVariables false
set_option linter.unusedSimpArgs false
namespace Go.Proofs.YtjnafjgonoficaaGreatDoor
open Go.RowKit Go.Proofs.YtjnafjgonoficaaGreatDoorW.PrintWords
theorem RowsAt.grow {w w':World} {base m:Nat} {ls:List Value} {gs:List Lx.G} {lv lv':Value} {g g':Lx.G} (h:RowsAt w base ls gs) (hll:ls.length=gs.length) (hm:ls[m]? = some lv) (hg:gs[m]? = some g) (hw:w.grownBy w' lv.ownBlock)
    (hg':g'.lines ≠ []) (ho:w'.ownsRow base 3 1 lv' g'.lines.length (intCells g'.lines)) (hat:lv'.ownBlock=lv.ownBlock ∨ ∃ b,lv'.ownBlock=some b∧w.heap.size ≤ b):RowsAt w' base (ls.set m lv') (gs.set m g'):=by
  have hml:m < ls.length:=(List.getElem?_eq_some_iff.1 hm).1
  have hold:∀ (i:Nat) (l:Value) (x:Lx.G),ls[i]? = some l → gs[i]? = some x → i ≠ m → w'.ownsRow base 3 1 l x.lines.length (intCells x.lines):=fun i l x h1 h2 hi =>
    (h.1 i l x h1 h2).2.kept hw (.inr (h.2 i m l lv hi h1 hm))
  have hne:∀ (i:Nat) (l:Value),ls[i]? = some l → i ≠ m → l.ownBlock ≠ lv'.ownBlock:=fun i l h1 hi e=>by
    have hil:i < gs.length:=by rw [← hll];exact (List.getElem?_eq_some_iff.1 h1).1
    rcases hat with e2 | ⟨b,e2,hb⟩
    · exact h.2 i m l lv hi h1 hm (e.trans e2)
    · have:=own_lt (h.1 i l _ h1 (List.getElem?_eq_getElem hil)).2 b (e.trans e2)
      omega
  constructor
  · intro i l x h1 h2
    by_cases hi:i=m
    · subst hi
      rw [List.getElem?_set_self (by omega)] at h1
      rw [List.getElem?_set_self (by omega)] at h2
      cases h1
      cases h2
      exact ⟨hg',ho⟩
    · rw [List.getElem?_set_ne (fun e=>hi e.symm)] at h1 h2
      exact ⟨(h.1 i l x h1 h2).1,hold i l x h1 h2 hi⟩
  · intro i j l l' hij h1 h2
    by_cases hi:i=m
    · subst hi
      rw [List.getElem?_set_self (by omega)] at h1
      cases h1
      rw [List.getElem?_set_ne hij] at h2
      exact (hne j l' h2 (fun e=>hij e.symm)).symm
    · rw [List.getElem?_set_ne (fun e=>hi e.symm)] at h1
      by_cases hj:j=m
      · subst hj
        rw [List.getElem?_set_self (by omega)] at h2
        cases h2
        exact hne i l h1 hi
      · rw [List.getElem?_set_ne (fun e=>hj e.symm)] at h2
        exact h.2 i j l l' hij h1 h2
theorem gcells_cons (l:Value) (ls:List Value) (g:Lx.G) (gs:List Lx.G):gcells (l :: ls) (g :: gs)=l :: .int .i64 g.br :: .int .i64 g.par :: .int .i64 g.bch :: gcells ls gs:=rfl
theorem gcells_lines (lv':Value) (h:Lx.G → Lx.G) (hb:∀ g,(h g).br=g.br∧(h g).par=g.par∧(h g).bch=g.bch):∀ (ls:List Value) (gs:List Lx.G) (m:Nat),ls.length=gs.length → m < ls.length → gcells (ls.set m lv') (gs.modify m h)=(gcells ls gs).set (m * 4) lv'
  | [],gs,m,_,hm=>by simp at hm
  | l :: ls,[],m,hl,_=>by simp at hl
  | l :: ls,g :: gs,0,_,_=>by
    rw [List.set_cons_zero,List.modify_zero_cons,gcells_cons,gcells_cons,(hb g).1,(hb g).2.1,(hb g).2.2]
    rfl
  | l :: ls,g :: gs,m + 1,hl,hm=>by
    rw [List.set_cons_succ,List.modify_succ_cons,gcells_cons,gcells_cons,gcells_lines lv' h hb ls gs m (by simpa using hl) (by simpa using hm),show (m + 1) * 4=m * 4 + 1 + 1 + 1 + 1 from by omega]
    rfl
theorem gcells_br (x:Int) (h:Lx.G → Lx.G) (hb:∀ g,(h g).par=g.par∧(h g).bch=g.bch) (hx:∀ g,(h g).br=x):∀ (ls:List Value) (gs:List Lx.G) (m:Nat),ls.length=gs.length → m < ls.length → gcells ls (gs.modify m h)=(gcells ls gs).set (m * 4 + 1) (.int .i64 x)
  | [],gs,m,_,hm=>by simp at hm
  | l :: ls,[],m,hl,_=>by simp at hl
  | l :: ls,g :: gs,0,_,_=>by
    rw [List.modify_zero_cons,gcells_cons,gcells_cons,hx g,(hb g).1,(hb g).2]
    rfl
  | l :: ls,g :: gs,m + 1,hl,hm=>by
    rw [List.modify_succ_cons,gcells_cons,gcells_cons,gcells_br x h hb hx ls gs m (by simpa using hl) (by simpa using hm),show (m + 1) * 4 + 1=(m * 4 + 1) + 1 + 1 + 1 + 1 from by omega]
    rfl
theorem gcells_at:∀ (ls:List Value) (gs:List Lx.G) (m:Nat) (l:Value) (g:Lx.G),ls[m]? = some l → gs[m]? = some g → (gcells ls gs)[m * 4]? = some l∧(gcells ls gs)[m * 4 + 1]? = some (.int .i64 g.br)
  | [],gs,m,l,g,h,_=>by simp at h
  | a :: ls,[],m,l,g,_,h=>by simp at h
  | a :: ls,b :: gs,0,l,g,h1,h2=>by
    simp at h1 h2
    subst h1 h2
    exact ⟨rfl,rfl⟩
  | a :: ls,b :: gs,m + 1,l,g,h1,h2=>by
    have:=gcells_at ls gs m l g (by simpa using h1) (by simpa using h2)
    rw [gcells_cons,show (m + 1) * 4 + 1=(m * 4 + 1) + 1 + 1 + 1 + 1 from by omega,show (m + 1) * 4=m * 4 + 1 + 1 + 1 + 1 from by omega]
    exact this
theorem begin_calls (w:World) (base f i:Nat) (k:ByteArray) (S T:Lx.GS) (h:FS w base f S) (hN:S.gs.length ≤ 100000) (ho:Lx.opens k=true) (hT:Lx.gstep 0 S k i=some T) :
    Calls Tryz.prog 65 #[.pointer (some ⟨f,0,none⟩),.int .i64 i] w fun e w'=>e=.returned (.tuple #[])∧FS w' base f T∧Below base w w':=by
  unfold Lx.gstep at hT
  rw [if_pos ho] at hT
  rcases hs:S.st with _ | ⟨⟨n,b,e⟩,r⟩
  · rw [hs] at hT
    cases hT
    exact begin_nil w base f i S h hs hN
  · rw [hs] at hT
    cases hT
    exact begin_cons w base f i S h n b e r hs hN
set_option maxRecDepth 100000 in
set_option maxHeartbeats 4000000 in
theorem step_open (w:World) (base f i:Nat) (k:ByteArray) (S T:Lx.GS) (h:FS w base f S) (hN:S.gs.length ≤ 100000) (ho:Lx.opens k=true) (hT:Lx.gstep 0 S k i=some T) :
    Calls Tryz.prog 44 #[.pointer (some ⟨f,0,none⟩),.string k,.int .i64 i] w fun e w'=>e=.returned (.bool true)∧FS w' base f T∧Below base w w':=by
  have H:=mkA (begin_calls w base f i k S T h hN ho hT)
  clear h hT
  go_enter Tryz.func44,Tryz.ntmps44
  go_wp2_with (first | (go_at_call 43;(with_reducible refine (opens_calls k _).mono ?_);rintro e w' ⟨rfl,rfl⟩) | (go_at_call 65;(refine H.out.mono ?_);rintro e w' ⟨rfl,hf,hb⟩;have HF:=mkA hf;have HB:=mkA hb;clear hf hb))
  go_ret
  exact ⟨rfl,HF.out,HB.out⟩
theorem step_none (w:World) (base f i:Nat) (k:ByteArray) (ho:Lx.opens k=false) (hc:Lx.closes k=false) :
    Calls Tryz.prog 44 #[.pointer (some ⟨f,0,none⟩),.string k,.int .i64 i] w fun e w'=>e=.returned (.bool true)∧w=w':=by
  unfold Lx.closes at hc
  rw [Bool.or_eq_false_iff,Bool.or_eq_false_iff] at hc
  obtain ⟨⟨h1,h2⟩,h3⟩:=hc
  unfold Lx.sElif at h1
  unfold Lx.sElse at h2
  unfold Lx.sEndif at h3
  go_enter Tryz.func44,Tryz.ntmps44
  go_wp2_with (first | (go_at_call 43;(with_reducible refine (opens_calls k _).mono ?_);rintro e w' ⟨rfl,rfl⟩))
  go_ret
  exact ⟨rfl,rfl⟩
set_option maxRecDepth 100000 in
set_option maxHeartbeats 4000000 in
theorem step_bad (w:World) (base f:Nat) (i:Nat) (k:ByteArray) (S:Lx.GS) (h:FS w base f S) (ho:Lx.opens k=false) (hc:Lx.closes k=true) (hs:S.st=[]) :
    Calls Tryz.prog 44 #[.pointer (some ⟨f,0,none⟩),.string k,.int .i64 i] w fun e w'=>e=.returned (.bool false)∧w=w':=by
  obtain ⟨v,p,ls,hf,hbf,hll,hown,hrows,hch,hlt⟩:=h
  rw [hs] at hch
  obtain rfl:p=.pointer none:=hch
  have c1:w.cell? ⟨f,1,none⟩=some (.pointer none):=by rw [blk_cell hf];rfl
  have hfl:=blk_lt hf
  clear hs hf hown hrows hlt hll
  unfold Lx.closes Lx.sElif Lx.sElse Lx.sEndif at hc
  cases h1:(k.toList == [101,108,105,102])
  · cases h2:(k.toList == [101,108,115,101])
    · cases h3:(k.toList == [101,110,100,105,102])
      · rw [h1,h2,h3] at hc;simp at hc
      · clear hc
        go_enter Tryz.func44,Tryz.ntmps44
        go_wp2_with (go_at_call 43;(with_reducible refine (opens_calls k _).mono ?_);rintro e w' ⟨rfl,rfl⟩)
        go_ret
        exact ⟨rfl,rfl⟩
    · clear hc
      go_enter Tryz.func44,Tryz.ntmps44
      go_wp2_with (go_at_call 43;(with_reducible refine (opens_calls k _).mono ?_);rintro e w' ⟨rfl,rfl⟩)
      go_ret
      exact ⟨rfl,rfl⟩
  · clear hc
    go_enter Tryz.func44,Tryz.ntmps44
    go_wp2_with (go_at_call 43;(with_reducible refine (opens_calls k _).mono ?_);rintro e w' ⟨rfl,rfl⟩)
    go_ret
    exact ⟨rfl,rfl⟩
theorem modify_set (F:Lx.G → Lx.G):∀ (gs:List Lx.G) (n:Nat) (g:Lx.G),gs[n]? = some g → gs.modify n F=gs.set n (F g)
  | [],n,g,h=>by simp at h
  | a :: r,0,g,h=>by simp at h;subst h;rfl
  | a :: r,n + 1,g,h=>by rw [List.modify_succ_cons,List.set_cons_succ,modify_set F r n g (by simpa using h)]
def FSc (w:World) (base f:Nat) (S:Lx.GS) (v p:Value) (ls:List Value):Prop:=w.heap[f]? = some (.cells #[v,p] 80 (0,0))∧base ≤ f∧ls.length=S.gs.length∧w.ownsRow base 41 4 v S.gs.length (gcells ls S.gs)∧RowsAt w base ls S.gs ∧
  Chain w base p S.st w.heap.size∧∀ x ∈ S.st,x.1 < S.gs.length
theorem FSc.fs {w:World} {base f:Nat} {S:Lx.GS} {v p:Value} {ls:List Value} (h:FSc w base f S v p ls):FS w base f S:=⟨v,p,ls,h⟩
theorem own_heap {w:World} {base g n cap:Nat} {e:TypeId} {size:Nat} {xs:List Value} (h:w.ownsRow base e size (.slice (some ⟨g,0,none⟩) n cap) n xs):∃ cur,w.heap[g]? = some (.cells cur e (0,0))∧base ≤ g:=by
  rcases h.2 with ⟨h',_⟩ | ⟨g',cap',cur,h',hb,hg,_⟩
  · simp at h'
  · simp only [Value.slice.injEq,Option.some.injEq,Addr.mk.injEq,and_true,true_and] at h'
    obtain ⟨rfl,rfl⟩:=h'
    exact ⟨cur,hg,hb⟩
theorem fsc_line {w w1:World} {base f gb N c n:Nat} {S:Lx.GS} {p lv v1:Value} {ls:List Value} {g:Lx.G} {i:Int} (h:FSc w base f S (.slice (some ⟨gb,0,none⟩) N c) p ls) (hm:ls[n]? = some lv) (hg:S.gs[n]? = some g)
    (hw:w.grownBy w1 lv.ownBlock) (ho:w1.ownsRow base 3 1 v1 (g.lines.length + 1) (intCells g.lines ++ [.int .i64 i])) (hat:v1.ownBlock=lv.ownBlock ∨ ∃ b,v1.ownBlock=some b∧w.heap.size ≤ b) :
    FSc (w1.setCell ⟨gb,n * 4,none⟩ v1) base f ⟨S.gs.modify n fun g=>⟨g.lines ++ [i],g.br,g.par,g.bch⟩,S.st⟩ (.slice (some ⟨gb,0,none⟩) N c) p (ls.set n v1):=by
  obtain ⟨hf,hbf,hll,hown,hrows,hch,hlt⟩:=h
  have hN:=hown.1
  have hNe:S.gs.length=N:=by
    rcases hown.2 with ⟨h',_⟩ | ⟨g',cap',cur,h',_⟩
    · simp at h'
    · simp only [Value.slice.injEq] at h';exact h'.2.1.symm
  rw [hNe] at hown
  have hlvo:=(hrows.1 n lv g hm hg).2
  have hml:n < ls.length:=(List.getElem?_eq_some_iff.1 hm).1
  obtain ⟨cur,hcur,hbg⟩:=own_heap hown
  have hown1:=own_kept_row hown hlvo hw (by decide)
  have hf1:w1.heap[f]? = some (.cells #[.slice (some ⟨gb,0,none⟩) N c,p] 80 (0,0)):=(hw.block f (blk_lt hf) (own_ne hlvo hf (by decide))).trans hf
  obtain ⟨cur1,hcur1,-⟩:=own_heap hown1
  have hne:gb ≠ f:=fun e=>by rw [e,hf1] at hcur1;simp at hcur1
  have hset:w1.grownBy (w1.setCell ⟨gb,n * 4,none⟩ v1) (some gb):=grown_set (World.grownBy.refl _ _) _ _
  have hrows1:=hrows.grow (g':=⟨g.lines ++ [i],g.br,g.par,g.bch⟩) hll hm hg hw (by simp) (by
    have e1:intCells (g.lines ++ [i])=intCells g.lines ++ [.int .i64 i]:=by unfold intCells;rw [List.map_append];rfl
    rw [e1];simpa using ho) hat
  have e2:S.gs.modify n (fun g=>⟨g.lines ++ [i],g.br,g.par,g.bch⟩)=S.gs.set n ⟨g.lines ++ [i],g.br,g.par,g.bch⟩:=by
    exact modify_set _ _ _ _ hg
  refine ⟨(hset.block f (blk_lt hf1) (by simpa using fun e=>hne e.symm)).trans hf1,hbf,by simp [hll],?_,?_,?_,?_⟩
  · dsimp only
    rw [List.length_modify,hNe,gcells_lines v1 (fun g=>⟨g.lines ++ [i],g.br,g.par,g.bch⟩) (fun g=>⟨rfl,rfl,rfl⟩) ls S.gs n hll hml]
    exact (hown1.stored _ _).1
  · dsimp only
    rw [e2]
    exact hrows1.ty hset hcur1 (by decide)
  · have h1:=Chain.kept hw _ _ _ w1.heap.size hch hw.size (fun k cs hk hl e=>own_ne hlvo e (by decide) hk.symm)
    exact Chain.kept hset _ _ _ _ h1 hset.size (fun k cs hk hl e=>by
      have:=Option.some.inj hk
      subst this
      rw [hcur1] at e;simp at e)
  · intro x hx;dsimp only;rw [List.length_modify];exact hlt x hx
theorem fsc_br {w:World} {base f gb N c n:Nat} {S:Lx.GS} {p:Value} {ls:List Value} (x:Int) (h:FSc w base f S (.slice (some ⟨gb,0,none⟩) N c) p ls) (hn:n < S.gs.length) :
    FSc (w.setCell ⟨gb,n * 4 + 1,none⟩ (.int .i64 x)) base f ⟨S.gs.modify n fun g=>⟨g.lines,x,g.par,g.bch⟩,S.st⟩ (.slice (some ⟨gb,0,none⟩) N c) p ls:=by
  obtain ⟨hf,hbf,hll,hown,hrows,hch,hlt⟩:=h
  have hNe:S.gs.length=N:=by
    rcases hown.2 with ⟨h',_⟩ | ⟨g',cap',cur,h',_⟩
    · simp at h'
    · simp only [Value.slice.injEq] at h';exact h'.2.1.symm
  rw [hNe] at hown
  obtain ⟨cur,hcur,hbg⟩:=own_heap hown
  have hne:gb ≠ f:=fun e=>by rw [e,hf] at hcur;simp at hcur
  have hset:w.grownBy (w.setCell ⟨gb,n * 4 + 1,none⟩ (.int .i64 x)) (some gb):=grown_set (World.grownBy.refl _ _) _ _
  refine ⟨(hset.block f (blk_lt hf) (by simpa using fun e=>hne e.symm)).trans hf,hbf,by simp [hll],?_,?_,?_,?_⟩
  · dsimp only
    rw [List.length_modify,hNe,gcells_br x (fun g=>⟨g.lines,x,g.par,g.bch⟩) (fun g=>⟨rfl,rfl⟩) (fun g=>rfl) ls S.gs n hll (by omega)]
    exact (hown.stored _ _).1
  · have h1:=hrows.ty hset hcur (by decide)
    constructor
    · intro j l g h2 h3
      dsimp only at h3
      rw [List.getElem?_modify] at h3
      obtain ⟨g0,h0,rfl⟩:=Option.map_eq_some_iff.1 h3
      have:=h1.1 j l g0 h2 h0
      split
      · exact this
      · exact this
    · exact h1.2
  · exact Chain.kept hset _ _ _ _ hch hset.size (fun k cs hk hl e=>by
      have:=Option.some.inj hk
      subst this
      rw [hcur] at e;simp at e)
  · intro y hy;dsimp only;rw [List.length_modify];exact hlt y hy
theorem fsc_top {w:World} {base f blk n b b':Nat} {e e':Bool} {r:List (Nat × Nat × Bool)} {gs:List Lx.G} {v q:Value} {ls:List Value}
    (h:FSc w base f ⟨gs,(n,b,e) :: r⟩ v (.pointer (some ⟨blk,0,none⟩)) ls) (hb:w.heap[blk]? = some (.cells #[.int .i64 n,.int .i64 b,.bool e,q] 82 (0,0))) :
    FSc ((w.setCell ⟨blk,1,none⟩ (.int .i64 (b':Int))).setCell ⟨blk,2,none⟩ (.bool e')) base f ⟨gs,(n,b',e') :: r⟩ v (.pointer (some ⟨blk,0,none⟩)) ls:=by
  obtain ⟨hf,hbf,hll,hown,hrows,hch,hlt⟩:=h
  obtain ⟨blk2,q2,e1,e2,e3,e4,e5⟩:=hch
  simp only [Value.pointer.injEq,Option.some.injEq,Addr.mk.injEq,and_true] at e1
  subst e1
  have hset:w.grownBy ((w.setCell ⟨blk,1,none⟩ (.int .i64 (b':Int))).setCell ⟨blk,2,none⟩ (.bool e')) (some blk):=grown_set (grown_set (World.grownBy.refl _ _) _ _) _ _
  have hne:blk ≠ f:=fun e=>by rw [e,hf] at hb;simp at hb
  have hnb:=blk_set (blk_set hb 1 (.int .i64 (b':Int))) 2 (.bool e')
  rw [hb] at e4
  have hq:q2=q:=by simp at e4;exact e4.symm
  subst hq
  refine ⟨(hset.block f (blk_lt hf) (by simpa using fun e=>hne e.symm)).trans hf,hbf,hll,own_kept_ty hown hset hb (by decide),hrows.ty hset hb (by decide),?_,?_⟩
  · refine ⟨blk,q2,rfl,e2,by simpa [World.setCell] using e3,hnb,?_⟩
    exact Chain.kept hset r q2 blk blk e5 (Nat.le_refl _) (fun k cs hk hl e=>by have:=Option.some.inj hk;omega)
  · intro x hx
    rcases List.mem_cons.1 hx with rfl | hx
    · exact hlt (n,b,e) List.mem_cons_self
    · exact hlt x (List.mem_cons_of_mem _ hx)
theorem fsc_pop {w:World} {base f blk n b:Nat} {e:Bool} {r:List (Nat × Nat × Bool)} {gs:List Lx.G} {v q:Value} {ls:List Value}
    (h:FSc w base f ⟨gs,(n,b,e) :: r⟩ v (.pointer (some ⟨blk,0,none⟩)) ls) (hb:w.heap[blk]? = some (.cells #[.int .i64 n,.int .i64 b,.bool e,q] 82 (0,0))) :
    FSc (w.setCell ⟨f,1,none⟩ q) base f ⟨gs,r⟩ v q ls:=by
  obtain ⟨hf,hbf,hll,hown,hrows,hch,hlt⟩:=h
  obtain ⟨blk2,q2,e1,e2,e3,e4,e5⟩:=hch
  simp only [Value.pointer.injEq,Option.some.injEq,Addr.mk.injEq,and_true] at e1
  subst e1
  have hset:w.grownBy (w.setCell ⟨f,1,none⟩ q) (some f):=grown_set (World.grownBy.refl _ _) _ _
  rw [hb] at e4
  have hq:q2=q:=by simp at e4;exact e4.symm
  subst hq
  refine ⟨blk_set hf 1 _,hbf,hll,own_kept_ty hown hset hf (by decide),hrows.ty hset hf (by decide),?_,?_⟩
  · exact Chain.kept hset r q2 blk _ e5 (by have:=hset.size;omega) (fun k cs hk hl e=>by
      have:=Option.some.inj hk
      subst this
      rw [hf] at e;simp at e)
  · intro x hx;exact hlt x (List.mem_cons_of_mem _ hx)
theorem fsc_no {w w':World} {base f:Nat} {S:Lx.GS} {v p:Value} {ls:List Value} (h:FSc w base f S v p ls) (hg:w.grownBy w' none):FSc w' base f S v p ls:=by
  obtain ⟨hf,hbf,hll,hown,hrows,hch,hlt⟩:=h
  exact ⟨(hg.block f (blk_lt hf) (by simp)).trans hf,hbf,hll,own_kept_no hown hg,hrows.no hg,Chain.kept hg _ _ _ _ hch hg.size (fun k' cs hk'=>by cases hk'),hlt⟩
theorem Chain.ptr {w:World} {base hi:Nat} {p:Value} {st:List (Nat × Nat × Bool)} (h:Chain w base p st hi):∃ pq,p=.pointer pq:=by
  rcases st with _ | ⟨⟨n,b,e⟩,r⟩
  · exact ⟨none,h⟩
  · obtain ⟨blk,q,e1,-⟩:=h
    exact ⟨_,e1⟩
theorem modify2 (F G:Lx.G → Lx.G):∀ (gs:List Lx.G) (n:Nat),(gs.modify n F).modify n G=gs.modify n fun g=>G (F g)
  | [],n=>by simp
  | a :: r,0=>rfl
  | a :: r,n + 1=>by rw [List.modify_succ_cons,List.modify_succ_cons,List.modify_succ_cons,modify2 F G r n]
theorem info3:(Tryz.prog.info? 3).map (fun i=>(i.zero,i.size,i.bytes))=some (some (.int .i64 0),1,8):=by kernel_rfl
set_option maxRecDepth 100000 in
set_option maxHeartbeats 4000000 in
theorem step_nope (w:World) (base f:Nat) (i:Nat) (k:ByteArray) (S:Lx.GS) (h:FS w base f S) (n b:Nat) (r:List (Nat × Nat × Bool)) (hs:S.st=(n,b,true) :: r) (ho:Lx.opens k=false) (hc:(k.toList == Lx.sElif)=true ∨ (k.toList == Lx.sElse)=true) :
    Calls Tryz.prog 44 #[.pointer (some ⟨f,0,none⟩),.string k,.int .i64 i] w fun e w'=>e=.returned (.bool false)∧w=w':=by
  obtain ⟨v,p,ls,hf,hbf,hll,hown,hrows,hch,hlt⟩:=h
  rw [hs] at hch
  obtain ⟨blk,q,rfl,hbk,hbl,hblk,hch2⟩:=hch
  have c1:w.cell? ⟨f,1,none⟩=some (.pointer (some ⟨blk,0,none⟩)):=by rw [blk_cell hf];rfl
  have k2:w.cell? ⟨blk,2,none⟩=some (.bool true):=by rw [blk_cell hblk];rfl
  have hfl:=blk_lt hf
  have h6:(k.toList == [101,110,100,105,102])=false:=by
    unfold Lx.sElif Lx.sElse at hc
    rcases hc with hc | hc <;> rw [beq_iff_eq.mp hc] <;> rfl
  clear hs hf hown hrows hlt hll hch2 hblk
  obtain ⟨e',he'⟩:∃ e',(k.toList == Lx.sElse)=e':=⟨_,rfl⟩
  have h7:(k.toList == Lx.sElif) = !e':=by
    unfold Lx.sElif
    unfold Lx.sElif at hc
    rw [← he']
    unfold Lx.sElse
    unfold Lx.sElse at hc
    rcases hc with hc | hc <;> rw [beq_iff_eq.mp hc] <;> rfl
  unfold Lx.sElse at he'
  unfold Lx.sElif at h7
  clear hc
  cases e'
  all_goals
    go_enter Tryz.func44,Tryz.ntmps44
    go_wp2_with (go_at_call 43;(with_reducible refine (opens_calls k _).mono ?_);rintro e w' ⟨rfl,rfl⟩)
    go_ret
    exact ⟨rfl,rfl⟩
set_option maxRecDepth 100000 in
set_option maxHeartbeats 8000000 in
theorem step_mid (w:World) (base f:Nat) (i:Nat) (k:ByteArray) (S:Lx.GS) (h:FS w base f S) (n b:Nat) (r:List (Nat × Nat × Bool)) (hs:S.st=(n,b,false) :: r) (ho:Lx.opens k=false) (hc:(k.toList == Lx.sElif)=true ∨ (k.toList == Lx.sElse)=true) (hN:S.gs.length ≤ 100000) (hL:∀ g ∈ S.gs,g.lines.length ≤ 100000) (hb:b ≤ 100000) :
    Calls Tryz.prog 44 #[.pointer (some ⟨f,0,none⟩),.string k,.int .i64 i] w fun e w'=>e=.returned (.bool true)∧FS w' base f ⟨S.gs.modify n fun g=>⟨g.lines ++ [(i:Int)],g.br,g.par,g.bch⟩,(n,b + 1,k.toList == Lx.sElse) :: r⟩∧Below base w w':=by
  obtain ⟨el,hel⟩:∃ el,false=el:=⟨_,rfl⟩
  rw [hel] at hs
  obtain ⟨v,p,ls,hfsc⟩:=h
  have hfs0:FSc w base f S v p ls:=hfsc
  obtain ⟨hf,hbf,hll,hown,hrows,hch,hlt⟩:=hfsc
  rw [hs] at hch hlt
  obtain ⟨blk,q,rfl,hbk,hbl,hblk,hch2⟩:=hch
  obtain ⟨pq,rfl⟩:=hch2.ptr
  have hnN:n < S.gs.length:=hlt (n,b,el) List.mem_cons_self
  obtain ⟨g,hg⟩:∃ g,S.gs[n]? = some g:=⟨_,List.getElem?_eq_getElem hnN⟩
  obtain ⟨lv,hlv⟩:∃ lv,ls[n]? = some lv:=⟨_,List.getElem?_eq_getElem (by omega)⟩
  obtain ⟨hgne,hlvo⟩:=hrows.1 n lv g hlv hg
  obtain ⟨M,hM⟩:∃ M,g.lines.length=M:=⟨_,rfl⟩
  have hMp:0 < M:=by rw [← hM];exact List.length_pos_iff.2 hgne
  have hMl:M ≤ 100000:=by rw [← hM];exact hL g (List.mem_iff_getElem?.2 ⟨n,hg⟩)
  rw [hM] at hlvo
  obtain ⟨gl,cl,rfl,hgl1,hgl2⟩:=hlvo.form hMp
  obtain ⟨gb,c,rfl,hgb1,hgb2⟩:=hown.form (by omega)
  obtain ⟨N,hN0⟩:∃ N,S.gs.length=N:=⟨_,rfl⟩
  rw [hN0] at hN hnN
  have hFS:=mkA hfs0
  rw [hN0] at hFS hf hown
  have hfl:=blk_lt hf
  have HF:=mkA hf
  have HBLK:=mkA hblk
  have HG:=mkA hg
  have HLV:=mkA hlv
  have HM:=mkA hM
  have HLVO:=mkA hlvo
  have HOWN:=mkA hown
  have HN0:=mkA hN0
  have HS:=mkA hs
  have c0:w.cell? ⟨f,0,none⟩=some (.slice (some ⟨gb,0,none⟩) N c):=by rw [blk_cell hf];rfl
  have c1:w.cell? ⟨f,1,none⟩=some (.pointer (some ⟨blk,0,none⟩)):=by rw [blk_cell hf];rfl
  have k0:w.cell? ⟨blk,0,none⟩=some (.int .i64 n):=by rw [blk_cell hblk];rfl
  have k2:w.cell? ⟨blk,2,none⟩=some (.bool el):=by rw [blk_cell hblk];rfl
  clear hs hf hown hrows hlt hll hblk hch2 hg hlv hlvo hgne hM hN0 hfs0 hL
  subst hel
  have h6:(k.toList == [101,110,100,105,102])=false:=by
    unfold Lx.sElif Lx.sElse at hc
    rcases hc with hc | hc <;> rw [beq_iff_eq.mp hc] <;> rfl
  obtain ⟨e',he'⟩:∃ e',(k.toList == Lx.sElse)=e':=⟨_,rfl⟩
  have h7:(k.toList == Lx.sElif) = !e':=by
    unfold Lx.sElif
    unfold Lx.sElif at hc
    rw [← he']
    unfold Lx.sElse
    unfold Lx.sElse at hc
    rcases hc with hc | hc <;> rw [beq_iff_eq.mp hc] <;> rfl
  rw [he']
  unfold Lx.sElse at he'
  unfold Lx.sElif at h7
  clear hc
  have hwr:IntKind.i64.wrap ((b:Int) + 1)=(b:Int) + 1:=IntWalk.i64_in _ (by omega)
  cases e'
  all_goals
    go_enter Tryz.func44,Tryz.ntmps44
    go_wp2_with (go_at_call 43;(with_reducible refine (opens_calls k _).mono ?_);rintro e w' ⟨rfl,rfl⟩)
    go_quiet (fail)
    obtain ⟨W,hW⟩:∃ W,w.drewN nq=W:=⟨_,rfl⟩
    rw [hW]
    have hgr:w.grownBy W none:=hW ▸ grown_drewN (World.grownBy.refl _ _) _
    clear hW
    have hsz:=hgr.size
    have hfW:=(hgr.block f hfl (by simp)).trans HF.out
    have hblkW:=(hgr.block blk hbl (by simp)).trans HBLK.out
    have HFW:=mkA hfW
    have HBLKW:=mkA hblkW
    have HLVOW:=mkA (own_kept_no HLVO.out hgr)
    have HOWNW:=mkA (own_kept_no HOWN.out hgr)
    have HFSW:=mkA (fsc_no hFS.out hgr)
    have HGR:=mkA hgr
    have HBW:=mkA ((Below.refl base w).grown hgr (by omega) (fun k hk=>by cases hk))
    have a0:W.cell? ⟨gb,n * 4,none⟩=some (.slice (some ⟨gl,0,none⟩) M cl):=by
      rw [HOWNW.out.cellAt (n * 4) (by omega)]
      exact (gcells_at ls S.gs n _ g HLV.out HG.out).1
    have hne1:gb ≠ f:=fun e=>by
      obtain ⟨cur,hcur,-⟩:=own_heap HOWNW.out
      rw [e,hfW] at hcur;simp at hcur
    have hne2:gb ≠ blk:=fun e=>by
      obtain ⟨cur,hcur,-⟩:=own_heap HOWNW.out
      rw [e,hblkW] at hcur;simp at hcur
    have hne3:blk ≠ f:=fun e=>by rw [e,hfW] at hblkW;simp at hblkW
    clear c0 c1 k0 k2 hgr hfW hblkW
    go_wp2_with (first | (at_builtin;refine print_append_cells (w0:=w) (W:=W) base rfl (.tmp 60) (.tmp 62) 39 3 (.int .i64 0) 1 8 rfl Tryz.underlying39 info3 rfl (by decide) (by decide) (.slice (some ⟨gl,0,none⟩) M cl) M (intCells g.lines) [.int .i64 i] (by rfl) (by simp [Act.eval]) rfl (by simp [Value.oneCell']) HLVOW.out HBW.out (by omega) (by omega) ?_;intro v1 w1 hv1 hb1 hg1 hat1;obtain ⟨g1,cp1,hv1e,-,-⟩:=hv1.form (by omega);subst hv1e;have hbw1:=(hg1.block f (by omega) (own_ne HLVOW.out HFW.out (by decide))).trans HFW.out;have hblk1:=(hg1.block blk (by omega) (own_ne HLVOW.out HBLKW.out (by decide))).trans HBLKW.out;have hown1:=own_kept_row HOWNW.out HLVOW.out hg1 (by decide);have h2:=fsc_line (i:=(i:Int)) HFSW.out HLV.out HG.out hg1 (by rw [HM.out];exact hv1) hat1;have H2:=mkA h2;have hset:w1.grownBy (w1.setCell ⟨gb,n * 4,none⟩ (.slice (some ⟨g1,0,none⟩) (M + 1) cp1)) (some gb):=grown_set (World.grownBy.refl _ _) _ _;have hblk2:=(hset.block blk (blk_lt hblk1) (by simpa using fun e=>hne2 e.symm)).trans hblk1;have q0:w1.frozen? ⟨gb,n * 4,none⟩=false:=hown1.frozenAt _;have q1:w1.cell? ⟨gb,n * 4,none⟩=some (.slice (some ⟨gl,0,none⟩) M cl):=(by rw [hown1.cellAt (n * 4) (by omega)];exact (gcells_at ls S.gs n _ g HLV.out HG.out).1);have d1:(w1.setCell ⟨gb,n * 4,none⟩ (.slice (some ⟨g1,0,none⟩) (M + 1) cp1)).cell? ⟨f,1,none⟩=some (.pointer (some ⟨blk,0,none⟩)):=(by rw [blk_cell h2.1];rfl);have HB1:=mkA (Below.setCell (p:=⟨gb,n * 4,none⟩) hb1 (by omega) (.slice (some ⟨g1,0,none⟩) (M + 1) cp1));have HBLK2:=mkA hblk2;have e0:(w1.setCell ⟨gb,n * 4,none⟩ (.slice (some ⟨g1,0,none⟩) (M + 1) cp1)).cell? ⟨blk,1,none⟩=some (.int .i64 b):=(by rw [blk_cell hblk2];rfl);have z0:=blk_frozen hblk2 1;have z1:=blk_frozen (blk_set hblk2 1 (.int .i64 ((b:Int) + 1))) 2;have e2:((w1.setCell ⟨gb,n * 4,none⟩ (.slice (some ⟨g1,0,none⟩) (M + 1) cp1)).setCell ⟨blk,1,none⟩ (.int .i64 ((b:Int) + 1))).cell? ⟨blk,2,none⟩=some (.bool false):=(by rw [blk_cell (blk_set hblk2 1 _)];rfl);clear hv1 hb1 hg1 hat1 hbw1 hblk1 hown1 h2 hset hblk2))
    go_ret
    have e1:((b:Int) + 1)=((b + 1:Nat):Int):=by omega
    refine ⟨rfl,(fsc_top (by rw [← HS.out];exact H2.out) HBLK2.out).fs,?_⟩
    exact Below.setCell (p:=⟨blk,2,none⟩) (Below.setCell (p:=⟨blk,1,none⟩) HB1.out hbk _) hbk _
set_option maxRecDepth 100000 in
set_option maxHeartbeats 8000000 in
theorem step_end (w:World) (base f:Nat) (i:Nat) (k:ByteArray) (S:Lx.GS) (h:FS w base f S) (n b:Nat) (el:Bool) (r:List (Nat × Nat × Bool)) (hs:S.st=(n,b,el) :: r) (ho:Lx.opens k=false) (hc:(k.toList == Lx.sEndif)=true) (hN:S.gs.length ≤ 100000) (hL:∀ g ∈ S.gs,g.lines.length ≤ 100000) :
    Calls Tryz.prog 44 #[.pointer (some ⟨f,0,none⟩),.string k,.int .i64 i] w fun e w'=>e=.returned (.bool true)∧FS w' base f ⟨S.gs.modify n fun g=>⟨g.lines ++ [(i:Int)],(g.lines.length:Int) + (if el=true then 0 else 1),g.par,g.bch⟩,r⟩∧Below base w w':=by
  obtain ⟨v,p,ls,hfsc⟩:=h
  have hfs0:FSc w base f S v p ls:=hfsc
  obtain ⟨hf,hbf,hll,hown,hrows,hch,hlt⟩:=hfsc
  rw [hs] at hch hlt
  obtain ⟨blk,q,rfl,hbk,hbl,hblk,hch2⟩:=hch
  obtain ⟨pq,rfl⟩:=hch2.ptr
  have hnN:n < S.gs.length:=hlt (n,b,el) List.mem_cons_self
  obtain ⟨g,hg⟩:∃ g,S.gs[n]? = some g:=⟨_,List.getElem?_eq_getElem hnN⟩
  obtain ⟨lv,hlv⟩:∃ lv,ls[n]? = some lv:=⟨_,List.getElem?_eq_getElem (by omega)⟩
  obtain ⟨hgne,hlvo⟩:=hrows.1 n lv g hlv hg
  obtain ⟨M,hM⟩:∃ M,g.lines.length=M:=⟨_,rfl⟩
  have hMp:0 < M:=by rw [← hM];exact List.length_pos_iff.2 hgne
  have hMl:M ≤ 100000:=by rw [← hM];exact hL g (List.mem_iff_getElem?.2 ⟨n,hg⟩)
  rw [hM] at hlvo
  obtain ⟨gl,cl,rfl,hgl1,hgl2⟩:=hlvo.form hMp
  obtain ⟨gb,c,rfl,hgb1,hgb2⟩:=hown.form (by omega)
  obtain ⟨N,hN0⟩:∃ N,S.gs.length=N:=⟨_,rfl⟩
  rw [hN0] at hN hnN
  have hFS:=mkA hfs0
  rw [hN0] at hFS hf hown
  have hfl:=blk_lt hf
  have HF:=mkA hf
  have HBLK:=mkA hblk
  have HG:=mkA hg
  have HLV:=mkA hlv
  have HM:=mkA hM
  have HLVO:=mkA hlvo
  have HOWN:=mkA hown
  have HN0:=mkA hN0
  have HS:=mkA hs
  have c0:w.cell? ⟨f,0,none⟩=some (.slice (some ⟨gb,0,none⟩) N c):=by rw [blk_cell hf];rfl
  have c1:w.cell? ⟨f,1,none⟩=some (.pointer (some ⟨blk,0,none⟩)):=by rw [blk_cell hf];rfl
  have k0:w.cell? ⟨blk,0,none⟩=some (.int .i64 n):=by rw [blk_cell hblk];rfl
  have k2:w.cell? ⟨blk,2,none⟩=some (.bool el):=by rw [blk_cell hblk];rfl
  clear hs hf hown hrows hlt hll hblk hch2 hg hlv hlvo hgne hM hN0 hfs0 hL
  have h5:(k.toList == [101,108,105,102])=false:=by
    unfold Lx.sEndif at hc;rw [beq_iff_eq.mp hc];rfl
  have h6:(k.toList == [101,108,115,101])=false:=by
    unfold Lx.sEndif at hc;rw [beq_iff_eq.mp hc];rfl
  have h7:(k.toList == [101,110,100,105,102])=true:=hc
  clear hc
  have hwr:IntKind.i64.wrap ((M:Int) + 1)=(M:Int) + 1:=IntWalk.i64_in _ (by omega)
  cases el
  all_goals
    go_enter Tryz.func44,Tryz.ntmps44
    go_wp2_with (go_at_call 43;(with_reducible refine (opens_calls k _).mono ?_);rintro e w' ⟨rfl,rfl⟩)
    go_quiet (fail)
    obtain ⟨W,hW⟩:∃ W,w.drewN nq=W:=⟨_,rfl⟩
    rw [hW]
    have hgr:w.grownBy W none:=hW ▸ grown_drewN (World.grownBy.refl _ _) _
    clear hW
    have hsz:=hgr.size
    have hfW:=(hgr.block f hfl (by simp)).trans HF.out
    have hblkW:=(hgr.block blk hbl (by simp)).trans HBLK.out
    have HFW:=mkA hfW
    have HBLKW:=mkA hblkW
    have HLVOW:=mkA (own_kept_no HLVO.out hgr)
    have HOWNW:=mkA (own_kept_no HOWN.out hgr)
    have HFSW:=mkA (fsc_no hFS.out hgr)
    have HGR:=mkA hgr
    have HBW:=mkA ((Below.refl base w).grown hgr (by omega) (fun k hk=>by cases hk))
    have a0:W.cell? ⟨gb,n * 4,none⟩=some (.slice (some ⟨gl,0,none⟩) M cl):=by
      rw [HOWNW.out.cellAt (n * 4) (by omega)]
      exact (gcells_at ls S.gs n _ g HLV.out HG.out).1
    have hne1:gb ≠ f:=fun e=>by
      obtain ⟨cur,hcur,-⟩:=own_heap HOWNW.out
      rw [e,hfW] at hcur;simp at hcur
    have hne2:gb ≠ blk:=fun e=>by
      obtain ⟨cur,hcur,-⟩:=own_heap HOWNW.out
      rw [e,hblkW] at hcur;simp at hcur
    have hne3:blk ≠ f:=fun e=>by rw [e,hfW] at hblkW;simp at hblkW
    clear c0 c1 k0 k2 hgr hfW hblkW
    go_wp2_with (first | (at_builtin;refine print_append_cells (w0:=w) (W:=W) base rfl (.tmp 60) (.tmp 62) 39 3 (.int .i64 0) 1 8 rfl Tryz.underlying39 info3 rfl (by decide) (by decide) (.slice (some ⟨gl,0,none⟩) M cl) M (intCells g.lines) [.int .i64 i] (by rfl) (by simp [Act.eval]) rfl (by simp [Value.oneCell']) HLVOW.out HBW.out (by omega) (by omega) ?_;intro v1 w1 hv1 hb1 hg1 hat1;obtain ⟨g1,cp1,hv1e,-,-⟩:=hv1.form (by omega);subst hv1e;have hbw1:=(hg1.block f (by omega) (own_ne HLVOW.out HFW.out (by decide))).trans HFW.out;have hblk1:=(hg1.block blk (by omega) (own_ne HLVOW.out HBLKW.out (by decide))).trans HBLKW.out;have hown1:=own_kept_row HOWNW.out HLVOW.out hg1 (by decide);have h2:=fsc_line (i:=(i:Int)) HFSW.out HLV.out HG.out hg1 (by rw [HM.out];exact hv1) hat1;have H2:=mkA h2;have hset:w1.grownBy (w1.setCell ⟨gb,n * 4,none⟩ (.slice (some ⟨g1,0,none⟩) (M + 1) cp1)) (some gb):=grown_set (World.grownBy.refl _ _) _ _;have hblk2:=(hset.block blk (blk_lt hblk1) (by simpa using fun e=>hne2 e.symm)).trans hblk1;have q0:w1.frozen? ⟨gb,n * 4,none⟩=false:=hown1.frozenAt _;have q1:w1.cell? ⟨gb,n * 4,none⟩=some (.slice (some ⟨gl,0,none⟩) M cl):=(by rw [hown1.cellAt (n * 4) (by omega)];exact (gcells_at ls S.gs n _ g HLV.out HG.out).1);have d1:(w1.setCell ⟨gb,n * 4,none⟩ (.slice (some ⟨g1,0,none⟩) (M + 1) cp1)).cell? ⟨f,1,none⟩=some (.pointer (some ⟨blk,0,none⟩)):=(by rw [blk_cell h2.1];rfl);have HB1:=mkA (Below.setCell (p:=⟨gb,n * 4,none⟩) hb1 (by omega) (.slice (some ⟨g1,0,none⟩) (M + 1) cp1));have HBLK2:=mkA hblk2;have hst:=(hown1.stored (n * 4) (.slice (some ⟨g1,0,none⟩) (M + 1) cp1)).1;have hgl0:n * 4 + 1 < (gcells ls S.gs).length:=(by rw [hown1.1];omega);have e0:(w1.setCell ⟨gb,n * 4,none⟩ (.slice (some ⟨g1,0,none⟩) (M + 1) cp1)).cell? ⟨gb,n * 4,none⟩=some (.slice (some ⟨g1,0,none⟩) (M + 1) cp1):=(by rw [hst.cellAt (n * 4) (by omega),List.getElem?_set_self (by omega)]);have e1:(w1.setCell ⟨gb,n * 4,none⟩ (.slice (some ⟨g1,0,none⟩) (M + 1) cp1)).cell? ⟨gb,n * 4 + 1,none⟩=some (.int .i64 g.br):=(by rw [hst.cellAt (n * 4 + 1) (by omega),List.getElem?_set_ne (by omega)];exact (gcells_at ls S.gs n _ g HLV.out HG.out).2);have z0:=hst.frozenAt (n * 4 + 1);have e2:(w1.setCell ⟨gb,n * 4,none⟩ (.slice (some ⟨g1,0,none⟩) (M + 1) cp1)).cell? ⟨blk,2,none⟩=some (.bool _):=(by rw [blk_cell hblk2];rfl);have e3:(w1.setCell ⟨gb,n * 4,none⟩ (.slice (some ⟨g1,0,none⟩) (M + 1) cp1)).cell? ⟨blk,3,none⟩=some (.pointer pq):=(by rw [blk_cell hblk2];rfl);have hst3:=(hst.stored (n * 4 + 1) (.int .i64 M)).1;have hst4:=(hst3.stored (n * 4 + 1) (.int .i64 ((M:Int) + 1))).1;have hfs3:=fsc_br (M:Int) h2 (by dsimp only;rw [List.length_modify,HN0.out];exact hnN);have hfs4:=fsc_br ((M:Int) + 1) hfs3 (by dsimp only;rw [List.length_modify,List.length_modify,HN0.out];exact hnN);have HFS3:=mkA hfs3;have HFS4:=mkA hfs4;have y1:((w1.setCell ⟨gb,n * 4,none⟩ (.slice (some ⟨g1,0,none⟩) (M + 1) cp1)).setCell ⟨gb,n * 4 + 1,none⟩ (.int .i64 M)).cell? ⟨gb,n * 4 + 1,none⟩=some (.int .i64 M):=(by rw [hst3.cellAt (n * 4 + 1) (by omega),List.getElem?_set_self (by rw [List.length_set];omega)]);have y2:=hst3.frozenAt (n * 4 + 1);have y3:=blk_frozen hfs3.1 1;have y4:=blk_frozen hfs4.1 1;clear hst hst3 hst4 hfs3 hfs4 hgl0;clear hv1 hb1 hg1 hat1 hbw1 hblk1 hown1 h2 hset hblk2))
    go_ret
    have hblk3:=((grown_set (World.grownBy.refl _ (some gb)) (n * 4 + 1) (.int .i64 M)).block blk (blk_lt HBLK2.out) (by simpa using fun e=>hne2 e.symm)).trans HBLK2.out
    have hblk4:=((grown_set (World.grownBy.refl _ (some gb)) (n * 4 + 1) (.int .i64 ((M:Int) + 1))).block blk (blk_lt hblk3) (by simpa using fun e=>hne2 e.symm)).trans hblk3
    refine ⟨rfl,?_,?_⟩
    · first
      | (have h9:=HFS4.out
         try dsimp only at h9
         rw [HS.out,modify2,modify2] at h9
         have h10:=(fsc_pop h9 hblk4).fs
         rw [modify_set _ _ _ _ HG.out] at h10 ⊢
         rw [HM.out]
         exact h10)
      | (have h9:=HFS3.out
         try dsimp only at h9
         rw [HS.out,modify2] at h9
         have h10:=(fsc_pop h9 hblk3).fs
         rw [modify_set _ _ _ _ HG.out] at h10 ⊢
         rw [HM.out]
         simpa using h10)
    · first
      | exact Below.setCell (p:=⟨f,1,none⟩) (Below.setCell (p:=⟨gb,n * 4 + 1,none⟩) (Below.setCell (p:=⟨gb,n * 4 + 1,none⟩) HB1.out hgb1 _) hgb1 _) hbf _
      | exact Below.setCell (p:=⟨f,1,none⟩) (Below.setCell (p:=⟨gb,n * 4 + 1,none⟩) HB1.out hgb1 _) hbf _
def Grp (w:World) (base:Nat) (ty:TypeId) (v:Value) (gs:List Lx.G):Prop:=∃ ls,ls.length=gs.length∧w.ownsRow base ty 4 v gs.length (gcells ls gs)∧RowsAt w base ls gs
def kcells (ks:List ByteArray) (n:Nat):List Value:=(ks.map fun k => .string k) ++ List.replicate (n - ks.length) (.string ⟨#[]⟩)
theorem kcells_set (ks:List ByteArray) (k:ByteArray) (n:Nat) (h:ks.length < n):(kcells ks n).set ks.length (.string k)=kcells (ks ++ [k]) n:=by
  unfold kcells
  rw [List.set_append_right _ _ (by simp),List.length_map,Nat.sub_self,List.map_append,List.append_assoc]
  congr 1
  obtain ⟨m,hm⟩:∃ m,n - ks.length=m + 1:=⟨n - ks.length - 1,by omega⟩
  rw [hm,List.replicate_succ,List.set_cons_zero,List.length_append,List.length_singleton,show n - (ks.length + 1)=m by omega]
  rfl
theorem kcells_full (ks:List ByteArray):kcells ks ks.length=ks.map fun k => .string k:=by
  unfold kcells;rw [Nat.sub_self];simp
theorem take_snoc {α:Type} (l:List α) (i:Nat) (x:α) (h:l[i]? = some x):l.take (i + 1)=l.take i ++ [x]:=by
  rw [List.take_add_one,h];rfl
theorem drop_at {α:Type} (l:List α) (i:Nat) (x:α) (h:l[i]? = some x):l.drop i=x :: l.drop (i + 1):=by
  obtain ⟨hi,rfl⟩:=List.getElem?_eq_some_iff.1 h
  exact List.drop_eq_getElem_cons hi
theorem step_calls (w:World) (base f i:Nat) (k:ByteArray) (S:Lx.GS) (h:FS w base f S) (hG:Lx.Good S) (hN:S.gs.length ≤ 100000) (hL:∀ g ∈ S.gs,g.lines.length ≤ 100000) :
    Calls Tryz.prog 44 #[.pointer (some ⟨f,0,none⟩),.string k,.int .i64 i] w fun e w'=>e=.returned (.bool (Lx.gstep 0 S k i).isSome)∧FS w' base f ((Lx.gstep 0 S k i).getD S)∧Below base w w':=by
  cases ho:Lx.opens k
  · cases hc:Lx.closes k
    · have e:Lx.gstep 0 S k i=some S:=by unfold Lx.gstep;rw [ho,hc];rfl
      rw [e]
      refine (step_none w base f i k ho hc).mono ?_
      rintro e w' ⟨rfl,rfl⟩
      exact ⟨rfl,h,Below.refl _ _⟩
    · rcases hs:S.st with _ | ⟨⟨n,b,el⟩,r⟩
      · have e:Lx.gstep 0 S k i=none:=by unfold Lx.gstep;rw [ho,hc,hs];rfl
        rw [e]
        refine (step_bad w base f i k S h ho hc hs).mono ?_
        rintro e w' ⟨rfl,rfl⟩
        exact ⟨rfl,h,Below.refl _ _⟩
      · have hb:b ≤ 100000:=by
          obtain ⟨g,hg⟩:∃ g,S.gs[n]? = some g:=⟨_,List.getElem?_eq_getElem (hG.lt (n,b,el) (by rw [hs];exact List.mem_cons_self))⟩
          have h1:=hG.len (n,b,el) (by rw [hs];exact List.mem_cons_self) g hg
          have h2:=hL g (List.mem_iff_getElem?.2 ⟨n,hg⟩)
          dsimp only at h1
          omega
        cases h6:(k.toList == Lx.sEndif)
        · have hm:(k.toList == Lx.sElif)=true ∨ (k.toList == Lx.sElse)=true:=by
            unfold Lx.closes at hc
            rw [h6,Bool.or_false] at hc
            exact Bool.or_eq_true_iff.1 hc
          cases el
          · have e:Lx.gstep 0 S k i=some ⟨S.gs.modify n fun g=>⟨g.lines ++ [(i:Int)],g.br,g.par,g.bch⟩,(n,b + 1,k.toList == Lx.sElse) :: r⟩:=by unfold Lx.gstep;rw [ho,hc,hs];dsimp only;rw [h6];rfl
            rw [e]
            refine (step_mid w base f i k S h n b r hs ho hm hN hL hb).mono ?_
            rintro e w' ⟨rfl,hf,hb'⟩
            exact ⟨rfl,hf,hb'⟩
          · have e:Lx.gstep 0 S k i=none:=by unfold Lx.gstep;rw [ho,hc,hs];dsimp only;rw [h6];rfl
            rw [e]
            refine (step_nope w base f i k S h n b r hs ho hm).mono ?_
            rintro e w' ⟨rfl,rfl⟩
            exact ⟨rfl,h,Below.refl _ _⟩
        · have e:Lx.gstep 0 S k i=some ⟨S.gs.modify n fun g=>⟨g.lines ++ [(i:Int)],(g.lines.length:Int) + (if el=true then 0 else 1),g.par,g.bch⟩,r⟩:=by unfold Lx.gstep;rw [ho,hc,hs];dsimp only;rw [h6];cases el <;> rfl
          rw [e]
          refine (step_end w base f i k S h n b el r hs ho h6 hN hL).mono ?_
          rintro e w' ⟨rfl,hf,hb'⟩
          exact ⟨rfl,hf,hb'⟩
  · obtain ⟨T,hT⟩:∃ T,Lx.gstep 0 S k i=some T:=by
      unfold Lx.gstep
      rw [if_pos ho]
      rcases S.st with _ | ⟨⟨n,b,e⟩,r⟩
      · exact ⟨_,rfl⟩
      · exact ⟨_,rfl⟩
    rw [hT]
    refine (step_open w base f i k S T h hN ho hT).mono ?_
    rintro e w' ⟨rfl,hf,hb'⟩
    exact ⟨rfl,hf,hb'⟩
theorem made_kcells (W:World) (n:Nat) (hn:n ≤ 1000000):(W.alloc (.cells (madeCells #[.string ⟨#[]⟩] n) 9)).ownsRow W.heap.size 9 1 (.slice (some ⟨W.heap.size,0,none⟩) n n) n (kcells [] n):=by
  have h:=World.ownsRow_lit (base:=W.heap.size) (e:=9) (size:=1) W (madeCells #[.string ⟨#[]⟩] n) n (Nat.le_refl _) (by unfold maxLen;omega) (by simp [size_madeCells])
  rw [toList_madeCells_one] at h
  exact h
theorem kcells_rest (ks:List ByteArray) (n i:Nat) (hi:ks.length=i) (h:i < n):(kcells ks n)[i]? = some (.string ⟨#[]⟩):=by
  subst hi
  unfold kcells
  rw [List.getElem?_append_right (by simp),List.length_map,Nat.sub_self,List.getElem?_replicate,if_pos (by omega)]
theorem grp_nil (w:World) (base:Nat) (ty:TypeId):Grp w base ty (.slice none 0 0) []:=⟨[],rfl,own_nil _ _ _ _,fun i l g h=>by simp at h,fun i j l l' _ h=>by simp at h⟩
theorem fs_start (W:World):FS (W.alloc (.cells #[.slice none 0 0,.pointer none] 80)) W.heap.size W.heap.size Lx.gs0 :=
  ⟨_,_,[],blk_new W _,Nat.le_refl _,rfl,own_nil _ _ _ _,⟨fun i l g h=>by simp at h,fun i j l l' _ h=>by simp at h⟩,rfl,fun x hx=>by simp [Lx.gs0] at hx⟩
theorem grun_step (c:Int) (S:Lx.GS) (ks:List ByteArray) (i:Nat) (k:ByteArray) (h:ks[i]? = some k):Lx.grun c S (ks.drop i) i=match Lx.gstep c S k i with | none => .inr i | some T=>Lx.grun c T (ks.drop (i + 1)) (i + 1):=by
  rw [drop_at ks i k h];rfl
set_option maxRecDepth 100000 in
set_option maxHeartbeats 8000000 in
theorem condGroups_calls (v:Value) (L:List Lx.Tok) (w:World) (hT:Tks w v L) (hlen:L.length ≤ 100000) (hs:∀ t ∈ L,t.t.size ≤ 20000) (hm:MaxLen w) (hbl:Blanks w) (h5:5 ≤ w.heap.size) :
    Calls Tryz.prog 16 #[v] w fun e w' => ∃ gv,e=.returned (.tuple #[gv,.int .i64 (Lx.groups (L.map Lx.kindOf)).2.1,.int .i64 (Lx.groups (L.map Lx.kindOf)).2.2])∧Grp w' w.heap.size 41 gv (Lx.groups (L.map Lx.kindOf)).1∧Below w.heap.size w w':=by
  obtain ⟨A,c,rfl,hc1,hc2,hA⟩:=hT
  obtain ⟨n,hn⟩:∃ n,L.length=n:=⟨_,rfl⟩
  rw [hn] at hc1 hlen ⊢
  obtain ⟨ks,hks⟩:∃ ks,L.map Lx.kindOf=ks:=⟨_,rfl⟩
  have hkn:ks.length=n:=by rw [← hks,List.length_map,hn]
  rw [hks]
  obtain ⟨R,hR⟩:∃ R,Lx.groups ks=R:=⟨_,rfl⟩
  rw [hR]
  have hmk:=print_make_of (P:=Tryz.prog) 62 9 (.string ⟨#[]⟩) 16 Tryz.underlying62 (by kernel_rfl) rfl (by decide) n (by omega)
  have HKS:=mkA hks
  have HKN:=mkA hkn
  have HN:=mkA hn
  have HR:=mkA hR
  have HA:=mkA hA
  have HM:=mkA hm
  have HBL:=mkA hbl
  have HS:=mkA hs
  obtain ⟨base,hbase⟩:∃ base,w.heap.size=base:=⟨_,rfl⟩
  have HBASE:=mkA hbase
  have hown0:=made_kcells w n (by omega)
  have hB0:Below w.heap.size w (w.alloc (.cells (madeCells #[.string ⟨#[]⟩] n) 9)):=(Below.refl _ _).alloc (Nat.le_refl _) _
  rw [hbase] at hown0 hB0 h5
  have HOWN0:=mkA hown0
  have HB0:=mkA hB0
  rw [hbase]
  clear hks hkn hn hR hA hm hbl hs hown0 hB0
  go_enter Tryz.func16,Tryz.ntmps16
  go_wp2_with fail
  clear hbase hmk
  go_loopg [6,17] n (fun kq v6 v17 W => ∃ i:Nat,v17=.int .i64 i∧v6=.int .i64 (Lx.nOpens (ks.take i))∧Aside0 (i ≤ n∧kq=n - i) ∧
    Aside0 (W.ownsRow base 9 1 (.slice (some ⟨base,0,none⟩) n n) n (kcells (ks.take i) n))∧Aside0 (Below base w W)∧base + 1 ≤ W.heap.size)
  case atStart=>exact ⟨0,rfl,rfl,⟨by omega,rfl⟩,HOWN0,HB0,by simp [HBASE.out]⟩
  case round =>
    obtain ⟨i,rfl,rfl,HI,HK,HB,hsz⟩:=hrel
    have hi:=HI.out.1
    by_cases hlt:i < n
    · obtain ⟨t,ht⟩:∃ t,L[i]? = some t:=⟨_,List.getElem?_eq_getElem (by have:=HN.out;omega)⟩
      have hne:L ≠ []:=fun e=>by rw [e] at ht;simp at ht
      obtain ⟨g,o,rfl,hta,hgl⟩:=HA.out.resolve_left hne
      obtain ⟨a0,a1,a2,a3⟩:=(hta.below (by rw [HBASE.out];exact HB.out) hgl) i t ht
      have hts:=HS.out t (List.mem_of_getElem? ht)
      have hki:ks[i]? = some (Lx.kindOf t):=by rw [← HKS.out,List.getElem?_map,ht];rfl
      obtain ⟨k,hk⟩:∃ k,Lx.kindOf t=k:=⟨_,rfl⟩
      rw [hk] at hki
      have hnop:Lx.nOpens (ks.take (i + 1))=Lx.nOpens (ks.take i) + (if Lx.opens k=true then 1 else 0):=by rw [take_snoc ks i k hki,Lx.nOpens_snoc]
      have hnle:=Lx.nOpens_le (ks.take i)
      rw [List.length_take] at hnle
      obtain ⟨m,hm⟩:∃ m,Lx.nOpens (ks.take i)=m:=⟨_,rfl⟩
      rw [hm] at hnop hnle ⊢
      have hm1:m ≤ 100000:=by omega
      obtain ⟨op,hop⟩:∃ op,Lx.opens k=op:=⟨_,rfl⟩
      rw [hop] at hnop
      have HNOP:=mkA hnop
      have HKI:=mkA hki
      have HK2:=mkA hk
      have HOP:=mkA hop
      have HTS:=mkA hts
      clear hne ht hta hgl hki hk hnop hnle hm hop hts
      cases op
      all_goals
        go_wp2_with (first | (go_at_call 13;(refine (condKind_calls t _ HTS.out ?_ ?_ ?_).mono ?_);exact HM.out.belowN (HB.out.alloc (by omega) _) (by omega);exact HBL.out.below (by rw [HBASE.out];exact HB.out.alloc (by omega) _) (by have:=HBASE.out;omega);(simp;omega);rintro e w' ⟨rfl,hb⟩;rw [HK2.out];have hbw:Below base w w':=(HB.out.alloc (by omega) _).trans (hb.mono (by simp;omega));have hown:=(HK.out.alloc (.cells #[.int .i64 t.k,.string t.b,.string t.t,.int .i64 t.a] 29)).kept (grown_below (World.grownBy.refl _ none) hb) (Classical.em _);have hst:=hown.stored i (.string k);have hq0:=hown.frozenAt i;have hq1:w'.cell? ⟨base,i,none⟩=some (.string ⟨#[]⟩):=(by rw [hown.cellAt i (by omega)];exact kcells_rest _ n i (by rw [List.length_take,HKN.out];omega) hlt);have hq2:(w'.setCell ⟨base,i,none⟩ (.string k)).cell? ⟨base,i,none⟩=some (.string k):=(by rw [hst.1.cellAt i (by omega),List.getElem?_set_self (by rw [hown.1];omega)]);have HST:=mkA hst.1;have HBW:=mkA (Below.setCell (p:=⟨base,i,none⟩) hbw (Nat.le_refl _) (.string k));have hsw:base + 1 ≤ w'.heap.size:=(by have h1:=hb.size;simp at h1;omega);clear hb hbw hown hst) | (go_at_call 43;(with_reducible refine (opens_calls k _).mono ?_);rintro e w2 ⟨rfl,rfl⟩;rw [HOP.out]))
        go_roundg (n - (i + 1))
        case measure=>have:=HI.out;omega
        case rel =>
          refine ⟨i + 1,by go_num,?_,⟨by omega,rfl⟩,⟨?_⟩,HBW,by simpa [World.setCell] using hsw⟩
          · rw [HNOP.out];simp
          · have h1:=HST.out
            have h2:=kcells_set (ks.take i) k n (by rw [List.length_take,HKN.out];omega)
            rw [List.length_take,HKN.out,Nat.min_eq_left (by omega)] at h2
            rw [take_snoc ks i k HKI.out,← h2]
            exact h1
    · obtain rfl:i=n:=by omega
      obtain ⟨w1,rfl⟩:∃ w1,w1=wr:=⟨_,rfl⟩
      have htk:ks.take i=ks:=List.take_of_length_le (by have:=HKN.out;omega)
      rw [htk]
      have hkf:kcells (ks.take i) i=ks.map fun k => .string k:=by
        have h1:=kcells_full ks
        rw [HKN.out] at h1
        rw [htk,h1]
      have hown:=HK.out
      rw [hkf] at hown
      have HOWN:=mkA hown
      obtain ⟨m,hm⟩:∃ m,Lx.nOpens ks=m:=⟨_,rfl⟩
      have hmn:=Lx.nOpens_le ks
      rw [HKN.out,hm] at hmn
      rw [hm]
      have HMM:=mkA hm
      clear htk hkf hown hm HK HOWN0 hlt HM HBL
      by_cases hbig:200 < m
      · go_wp2_with fail
        go_ret3
        have hR0:R=([],2,0):=by rw [← HR.out];unfold Lx.groups Lx.groupsC;rw [HMM.out,if_pos hbig]
        subst hR0
        exact ⟨_,rfl,grp_nil _ _ _,HB.out⟩
      · have hR0:R=(match Lx.grun 0 Lx.gs0 ks 0 with
          | .inr j=>([],30,(j:Int))
          | .inl S=>if S.st.isEmpty=true then (S.gs,0,0) else ([],30,Lx.firstLine S)):=by
          rw [← HR.out];unfold Lx.groups Lx.groupsC;rw [HMM.out,if_neg hbig];rfl
        have HR0:=mkA hR0
        have hfs:=fs_start w1
        obtain ⟨F,hF⟩:∃ F,w1.heap.size=F:=⟨_,rfl⟩
        have HF:=mkA hF
        rw [hF] at hfs hsz
        have HFS:=mkA hfs
        have HBF:=mkA ((Below.refl F w1).alloc (by omega) (.cells #[.slice none 0 0,.pointer none] 80))
        clear hR0 hfs
        go_wp2_with fail
        clear hF
        go_loopg [41] i (fun kq v41 W => ∃ (j:Nat) (S:Lx.GS),v41=.int .i64 j∧Aside0 (j ≤ i∧kq=i - j∧Lx.grun 0 S (ks.drop j) j=Lx.grun 0 Lx.gs0 ks 0∧Lx.Good S∧Lx.Sm S j)∧Aside0 (FS W F F S)∧Aside0 (Below F w1 W))
        case atStart=>exact ⟨0,Lx.gs0,rfl,⟨by omega,rfl,rfl,Lx.good0,Lx.sm0⟩,HFS,HBF⟩
        case round =>
          obtain ⟨j,S,rfl,HJ,HFJ,HBJ⟩:=hrel
          have hj:=HJ.out.1
          have hBall:Below base w wr:=HB.out.trans (HBJ.out.mono (by omega))
          have hownr:=HOWN.out.kept (grown_below (World.grownBy.refl w1 none) (by rw [HF.out];exact HBJ.out)) (Classical.em _)
          have HBALL:=mkA hBall
          by_cases hjl:j < i
          · obtain ⟨k,hk⟩:∃ k,ks[j]? = some k:=⟨_,List.getElem?_eq_getElem (by have:=HKN.out;omega)⟩
            have g1:wr.cell? ⟨base,j,none⟩=some (.string k):=by rw [hownr.cellAt j (by omega),List.getElem?_map,hk];rfl
            have hgr:=grun_step 0 S ks j k hk
            rw [HJ.out.2.2.1] at hgr
            have hst:=step_calls wr F F j k S HFJ.out HJ.out.2.2.2.1 (by have:=HJ.out.2.2.2.2.1;omega) (fun g hg=>by have:=(HJ.out.2.2.2.2.2 g hg).1;omega)
            clear hBall hownr hk
            cases hg:Lx.gstep 0 S k j with
            | none =>
              rw [hg] at hgr hst
              have HGR:=mkA hgr
              have HST:=mkA hst
              clear hgr hst hg
              go_wp2_with (go_at_call 44;(refine HST.out.mono ?_);rintro e w' ⟨rfl,hf,hb⟩;have HB2:=mkA hb;clear hf hb;dsimp only [Option.isSome])
              go_ret3
              have hR1:R=([],30,(j:Int)):=by rw [HR0.out,HGR.out]
              subst hR1
              exact ⟨_,rfl,grp_nil _ _ _,HBALL.out.trans (HB2.out.mono (by omega))⟩
            | some T =>
              have hgd:=Lx.good_step 0 S T k j hg HJ.out.2.2.2.1
              have hsm:=Lx.sm_step 0 S T k j hg HJ.out.2.2.2.2
              rw [hg] at hgr hst
              have HGR:=mkA hgr
              have HST:=mkA hst
              have HGD:=mkA (And.intro hgd hsm)
              clear hgr hst hg hgd hsm
              go_wp2_with (go_at_call 44;(refine HST.out.mono ?_);rintro e w' ⟨rfl,hf,hb⟩;have HB2:=mkA hb;have HF2:=mkA hf;clear hf hb;dsimp only [Option.isSome])
              go_roundg (i - (j + 1))
              case measure=>have:=HJ.out;omega
              case rel=>exact ⟨j + 1,T,by go_num,⟨by omega,rfl,HGR.out.symm,HGD.out.1,HGD.out.2⟩,HF2,⟨HBJ.out.trans HB2.out⟩⟩
          · have hji:j=i:=by omega
            have hR1:R=(if S.st.isEmpty=true then (S.gs,0,0) else ([],30,Lx.firstLine S)):=by
              have h1:=HJ.out.2.2.1
              rw [List.drop_eq_nil_of_le (by have:=HKN.out;omega)] at h1
              rw [HR0.out,← h1];rfl
            subst hji
            obtain ⟨v,p,ls,hf,hbf,hll,hown,hrows,hch,hlt⟩:=HFJ.out
            obtain ⟨N,hN⟩:∃ N,S.gs.length=N:=⟨_,rfl⟩
            have hN1:N ≤ 100000:=by have:=HJ.out.2.2.2.2.1;omega
            rcases hst:S.st with _ | ⟨⟨n0,b0,e0⟩,r0⟩
            · rw [hst] at hR1 hch
              obtain rfl:p=.pointer none:=hch
              rw [List.isEmpty_nil,if_pos rfl] at hR1
              subst hR1
              have hgrp:Grp wr base 41 v S.gs:=⟨ls,hll,own_lower hown (by omega),⟨fun a b c d e=>⟨(hrows.1 a b c d e).1,own_lower (hrows.1 a b c d e).2 (by omega)⟩,hrows.2⟩⟩
              have HGRP:=mkA hgrp
              obtain ⟨A0,c0,rfl⟩:=own_slice hown
              have d0:wr.cell? ⟨F,0,none⟩=some (.slice A0 S.gs.length c0):=by rw [blk_cell hf];rfl
              have d1:wr.cell? ⟨F,1,none⟩=some (.pointer none):=by rw [blk_cell hf];rfl
              have hfl:=blk_lt hf
              clear hf hbf hll hown hrows hlt hst hBall hownr hgrp hN
              go_wp2_with fail
              go_ret3
              exact ⟨_,rfl,HGRP.out,HBALL.out⟩
            · rw [hst] at hR1 hch
              rw [List.isEmpty_cons,if_neg Bool.false_ne_true] at hR1
              obtain ⟨blk,q,rfl,hbk,hbl,hblk,-⟩:=hch
              have hn0:=hlt (n0,b0,e0) (by rw [hst];exact List.mem_cons_self)
              dsimp only at hn0
              obtain ⟨g,hg⟩:∃ g,S.gs[n0]? = some g:=⟨_,List.getElem?_eq_getElem hn0⟩
              have hfirst:Lx.firstLine S=g.lines.headD 0:=by unfold Lx.firstLine;rw [hst];dsimp only;rw [hg]
              rw [hfirst] at hR1
              obtain ⟨lv,hlv⟩:∃ lv,ls[n0]? = some lv:=⟨_,List.getElem?_eq_getElem (by omega)⟩
              obtain ⟨hgne,hlvo⟩:=hrows.1 n0 lv g hlv hg
              obtain ⟨x,xs,hx⟩:∃ x xs,g.lines=x :: xs:=List.exists_cons_of_ne_nil hgne
              rw [hx] at hlvo hR1
              have hR2:R=([],30,x):=hR1
              subst hR2
              clear hR1
              obtain ⟨gl,cl,rfl,hgl1,hgl2⟩:=hlvo.form (by simp)
              obtain ⟨gb,c0,rfl,hgb1,hgb2⟩:=hown.form (by omega)
              have l0:wr.cell? ⟨gl,0,none⟩=some (.int .i64 x):=by rw [hlvo.cellAt 0 (by simp)];rfl
              have a0:wr.cell? ⟨gb,n0 * 4,none⟩=some (.slice (some ⟨gl,0,none⟩) (xs.length + 1) cl):=by
                rw [hown.cellAt (n0 * 4) (by omega)]
                exact (gcells_at ls S.gs n0 _ g hlv hg).1
              have d0:wr.cell? ⟨F,0,none⟩=some (.slice (some ⟨gb,0,none⟩) S.gs.length c0):=by rw [blk_cell hf];rfl
              have d1:wr.cell? ⟨F,1,none⟩=some (.pointer (some ⟨blk,0,none⟩)):=by rw [blk_cell hf];rfl
              have k0:wr.cell? ⟨blk,0,none⟩=some (.int .i64 n0):=by rw [blk_cell hblk];rfl
              have hfl:=blk_lt hf
              rw [hN] at hn0 d0
              clear hf hbf hll hown hrows hlt hst hBall hownr hN hg hfirst hlv hgne hlvo hblk hx
              go_wp2_with fail
              go_quiet (fail)
              go_wp2_with fail
              go_ret3
              exact ⟨_,rfl,grp_nil _ _ _,HBALL.out.grown (grown_drewN (World.grownBy.refl _ none) _) (by omega) (fun k hk=>by cases hk)⟩
theorem wp_mapI_put (w:World) {ops:Array Oper} {rest:List Oper} {o:Oper} {a:Act} {Q:Exit → Act → World → Prop} (hg:o.guard=none) (m x v:Operand) (hop:o.op=Op.mapUpdate 111 m x v)
    (b n:Nat) (F:Int → Option Int) (hm:a.eval m=.map (some b)) (h:MapI w b n F) (hn:n < maxLen) (i y:Int) (hx:a.eval x=.int .i64 i) (hv:a.eval v=.int .i64 y) (hw1:(Lit.int .i64 i).wf=true) (hw2:(Lit.int .i64 y).wf=true)
    (hK:∀ w',MapI w' b (n + 1) (fun j=>if j=i then some y else F j) → w.grownBy w' (some b) → wpList Tryz.prog ops Q rest (a.put o.dst undef) w') :
    wpList Tryz.prog ops Q (o :: rest) a w:=by
  refine wpList_plain hg fun K' hK' => ?_
  obtain ⟨w',hrun,r1,r2⟩:=h.put hn i y hw1 hw2
  unfold Oper.wp
  simp [execOp,hop,hm,hx,hv,hrun,Result.andThen]
  exact hK' _ _ (hK w' r1 r2)
theorem wp_mapB_put (w:World) {ops:Array Oper} {rest:List Oper} {o:Oper} {a:Act} {Q:Exit → Act → World → Prop} (hg:o.guard=none) (m x v:Operand) (hop:o.op=Op.mapUpdate 112 m x v)
    (b n:Nat) (F:Int → Bool) (hm:a.eval m=.map (some b)) (h:MapB w b n F) (hn:n < maxLen) (i:Int) (y:Bool) (hx:a.eval x=.int .i64 i) (hv:a.eval v=.bool y) (hw1:(Lit.int .i64 i).wf=true)
    (hK:∀ w',MapB w' b (n + 1) (fun j=>if j=i then y else F j) → w.grownBy w' (some b) → wpList Tryz.prog ops Q rest (a.put o.dst undef) w') :
    wpList Tryz.prog ops Q (o :: rest) a w:=by
  refine wpList_plain hg fun K' hK' => ?_
  obtain ⟨w',hrun,r1,r2⟩:=h.put hn i y hw1
  unfold Oper.wp
  simp [execOp,hop,hm,hx,hv,hrun,Result.andThen]
  exact hK' _ _ (hK w' r1 r2)
theorem Grp.no {w w':World} {base:Nat} {ty:TypeId} {v:Value} {gs:List Lx.G} (h:Grp w base ty v gs) (hg:w.grownBy w' none):Grp w' base ty v gs:=by
  obtain ⟨ls,h1,h2,h3⟩:=h
  exact ⟨ls,h1,own_kept_no h2 hg,h3.no hg⟩
theorem gcells_at4:∀ (ls:List Value) (gs:List Lx.G) (m:Nat) (l:Value) (g:Lx.G),ls[m]? = some l → gs[m]? = some g → (gcells ls gs)[m * 4]? = some l∧(gcells ls gs)[m * 4 + 1]? = some (.int .i64 g.br)∧(gcells ls gs)[m * 4 + 2]? = some (.int .i64 g.par)∧(gcells ls gs)[m * 4 + 3]? = some (.int .i64 g.bch)
  | [],gs,m,l,g,h,_=>by simp at h
  | a :: ls,[],m,l,g,_,h=>by simp at h
  | a :: ls,b :: gs,0,l,g,h1,h2=>by
    simp at h1 h2
    subst h1 h2
    exact ⟨rfl,rfl,rfl,rfl⟩
  | a :: ls,b :: gs,m + 1,l,g,h1,h2=>by
    have:=gcells_at4 ls gs m l g (by simpa using h1) (by simpa using h2)
    rw [gcells_cons,show (m + 1) * 4 + 1=(m * 4 + 1) + 1 + 1 + 1 + 1 from by omega,show (m + 1) * 4 + 2=(m * 4 + 2) + 1 + 1 + 1 + 1 from by omega,show (m + 1) * 4 + 3=(m * 4 + 3) + 1 + 1 + 1 + 1 from by omega,show (m + 1) * 4=m * 4 + 1 + 1 + 1 + 1 from by omega]
    exact this
theorem Grp.at {w:World} {base:Nat} {ty:TypeId} {v:Value} {gs:List Lx.G} (h:Grp w base ty v gs) (i:Nat) (g:Lx.G) (hg:gs[i]? = some g) :
    ∃ gb c gl cl,v=.slice (some ⟨gb,0,none⟩) gs.length c∧w.cell? ⟨gb,i * 4,none⟩=some (.slice (some ⟨gl,0,none⟩) g.lines.length cl)∧w.cell? ⟨gb,i * 4 + 1,none⟩=some (.int .i64 g.br)∧w.cell? ⟨gb,i * 4 + 2,none⟩=some (.int .i64 g.par)∧w.cell? ⟨gb,i * 4 + 3,none⟩=some (.int .i64 g.bch) ∧
      0 < g.lines.length∧g.lines.length ≤ cl∧cl ≤ maxLen∧gl < w.heap.size∧gb < w.heap.size∧IntAt w gl 0 g.lines:=by
  obtain ⟨ls,h1,h2,h3⟩:=h
  have hi:=(List.getElem?_eq_some_iff.1 hg).1
  obtain ⟨lv,hlv⟩:∃ lv,ls[i]? = some lv:=⟨_,List.getElem?_eq_getElem (by omega)⟩
  obtain ⟨hne,ho⟩:=h3.1 i lv g hlv hg
  have hp:0 < g.lines.length:=List.length_pos_iff.2 hne
  obtain ⟨gl,cl,rfl,hgl1,hgl2⟩:=ho.form hp
  obtain ⟨gb,c,rfl,hgb1,hgb2⟩:=h2.form (by omega)
  obtain ⟨e0,e1,e2,e3⟩:=gcells_at4 ls gs i _ g hlv hg
  obtain ⟨A',c',e,hc1,hc2,hor⟩:=own_ints ho
  simp only [Value.slice.injEq] at e
  obtain ⟨eA,-,rfl⟩:=e
  obtain ⟨g',o',e',hat,-⟩:=hor.resolve_left hne
  rw [← eA] at e'
  simp only [Option.some.injEq,Addr.mk.injEq,and_true] at e'
  obtain ⟨rfl,rfl⟩:=e'
  exact ⟨gb,c,gl,cl,rfl,by rw [h2.cellAt _ (by omega)];exact e0,by rw [h2.cellAt _ (by omega)];exact e1,by rw [h2.cellAt _ (by omega)];exact e2,by rw [h2.cellAt _ (by omega)];exact e3,hp,hc1,hc2,hgl2,hgb2,hat⟩
end Go.Proofs.YtjnafjgonoficaaGreatDoor
