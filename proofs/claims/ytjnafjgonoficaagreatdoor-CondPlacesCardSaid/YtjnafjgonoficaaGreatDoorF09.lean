/-
  What cond.places comes to. Conditions: the tokens lie in memory; they are short; the library's variables are as their text lays them.
  What a choice hides: the search for a group whose chosen branch is another one. Conditions: the pairs and the choice lie in memory; the groups' numbers are within the choice.
  What cond.View comes to where the choice fits. Conditions: the tokens and the choice lie in memory; the tokens are short; the library's variables are as their text lays them.
  Conditions in memory: closures and names. Conditions: none.
-/
import Derived.Test.YtjnafjgonoficaaGreatDoorF08
set_option linter.unusedVariables false
set_option linter.unusedSimpArgs false
namespace Go.Proofs.YtjnafjgonoficaaGreatDoor
open Go.RowKit Go.Proofs.YtjnafjgonoficaaGreatDoorW.PrintWords
def Outs (w:World) (base:Nat) (ov:Value) (outs:List (List (Int × Int))):Prop:=∃ vs:List Value,vs.length=outs.length∧w.ownsRow base 55 1 ov outs.length vs∧∀ (j:Nat) (v:Value) (o:List (Int × Int)),vs[j]? = some v → outs[j]? = some o → w.ownsRow base 58 2 v o.length (pairCells o)
def openF (gs:List Lx.G) (i:Nat):Int → Option Int:=fun j=>(Lx.opener (gs.take i) j 0).map fun (x:Nat)=>(x:Int)
def endF (gs:List Lx.G) (i:Nat):Int → Bool:=fun j=>Lx.isEnd (gs.take i) j
def othF (gs:List Lx.G) (i:Nat):Int → Bool:=fun j=>Lx.isOther (gs.take i) j
def Maps3 (w:World) (b i m:Nat) (gs:List Lx.G):Prop:=MapI w b i (openF gs i)∧MapB w (b + 1) i (endF gs i)∧MapB w (b + 2) m (othF gs i)
theorem openF_step (gs:List Lx.G) (i:Nat) (g:Lx.G) (h:gs[i]? = some g):(fun j=>if j=g.lines.headD 0 then some (i:Int) else openF gs i j)=openF gs (i + 1):=by
  funext j
  unfold openF
  rw [take_snoc gs i g h,Lx.opener_snoc]
  have hi:=(List.getElem?_eq_some_iff.1 h).1
  by_cases hj:g.lines.headD 0=j
  · rw [if_pos hj.symm,if_pos hj,List.length_take,Nat.min_eq_left (by omega)];simp
  · rw [if_neg (fun e=>hj e.symm),if_neg hj]
theorem endF_step (gs:List Lx.G) (i:Nat) (g:Lx.G) (h:gs[i]? = some g) (x:Int) (hx:g.lines.getLastD 0=x):(fun j=>if j=x then true else endF gs i j)=endF gs (i + 1):=by
  funext j
  unfold endF
  rw [take_snoc gs i g h,Lx.isEnd_snoc,hx]
  by_cases hj:j=x
  · rw [if_pos hj,hj];simp
  · rw [if_neg hj]
    have:(x == j)=false:=beq_eq_false_iff_ne.mpr fun e=>hj e.symm
    rw [this,Bool.or_false]
theorem othF_step (gs:List Lx.G) (i:Nat) (g:Lx.G) (h:gs[i]? = some g) (j:Nat) (x:Int) (hx:(g.lines.drop 1)[j]? = some x) (F:Int → Bool) (hF:F=fun y=>othF gs i y || ((g.lines.drop 1).take j).contains y) :
    (fun y=>if y=x then true else F y)=fun y=>othF gs i y || ((g.lines.drop 1).take (j + 1)).contains y:=by
  funext y
  rw [hF,take_snoc _ j x hx]
  by_cases hy:y=x
  · rw [if_pos hy,hy];simp
  · rw [if_neg hy]
    simp [hy]
theorem othF_done (gs:List Lx.G) (i:Nat) (g:Lx.G) (h:gs[i]? = some g) (m:Nat) (hm:(g.lines.drop 1).length ≤ m):(fun y=>othF gs i y || ((g.lines.drop 1).take m).contains y)=othF gs (i + 1):=by
  funext y
  unfold othF
  rw [take_snoc gs i g h,Lx.isOther_snoc,List.take_of_length_le hm]
theorem made_nils (W:World) (n:Nat) (hn:n ≤ 1000000):(W.alloc (.cells (madeCells #[.slice none 0 0] n) 55)).ownsRow W.heap.size 55 1 (.slice (some ⟨W.heap.size,0,none⟩) n n) n (List.replicate n (.slice none 0 0)):=by
  have h:=World.ownsRow_lit (base:=W.heap.size) (e:=55) (size:=1) W (madeCells #[.slice none 0 0] n) n (Nat.le_refl _) (by unfold maxLen;omega) (by simp [size_madeCells])
  rw [toList_madeCells_one] at h
  exact h
theorem maps3_start (w:World) (gs:List Lx.G):Maps3 (((w.alloc (.map #[] 0)).alloc (.map #[] 0)).alloc (.map #[] 0)) w.heap.size 0 0 gs:=by
  have e1:openF gs 0=fun _=>none:=by funext j;simp [openF,Lx.opener]
  have e2:endF gs 0=fun _=>false:=by funext j;simp [endF,Lx.isEnd]
  have e3:othF gs 0=fun _=>false:=by funext j;simp [othF,Lx.isOther]
  refine ⟨?_,?_,?_⟩
  · rw [e1]
    exact ((mapI_made w).kept (World.grownBy_alloc _ _ none) (by simp)).kept (World.grownBy_alloc _ _ none) (by simp)
  · rw [e2]
    have:=(mapB_made (w.alloc (.map #[] 0))).kept (World.grownBy_alloc _ (.map #[] 0) none) (by simp)
    simpa using this
  · rw [e3]
    have:=mapB_made ((w.alloc (.map #[] 0)).alloc (.map #[] 0))
    simpa using this
def plFacts (gs:List Lx.G) (now':List (Int × Int)) (j k:Nat) (done:List (List (Int × Int))) (o:List (Int × Int)) (outs:List (List (Int × Int))):Prop:=∃ rest',Lx.plRun gs now' j k=some rest'∧(done ++ [o]) ++ rest'=outs
theorem opener_lt:∀ (gs:List Lx.G) (i:Int) (n g:Nat),Lx.opener gs i n=some g → g < n + gs.length
  | [],i,n,g,h=>by simp [Lx.opener] at h
  | x :: r,i,n,g,h=>by
    unfold Lx.opener at h
    cases hr:Lx.opener r i (n + 1) with
    | some m =>
      rw [hr] at h
      have:=opener_lt r i (n + 1) m hr
      cases h
      simp only [List.length_cons];omega
    | none =>
      rw [hr] at h
      dsimp only at h
      split at h
      · cases h;simp
      · cases h
theorem own_cast {w:World} {base n m:Nat} {e:TypeId} {size:Nat} {v:Value} {xs:List Value} (h:w.ownsRow base e size v n xs) (e2:n=m):w.ownsRow base e size v m xs:=e2 ▸ h
def PLs (w:World) (d:Nat) (v16:Value) (now:List (Int × Int)) (vs:List Value) (done:List (List (Int × Int))) (n:Nat):Prop :=
  w.ownsRow d 58 2 v16 now.length (pairCells now)∧w.ownsRow d 55 1 (.slice (some ⟨d,0,none⟩) n n) n (vs ++ List.replicate (n - vs.length) (.slice none 0 0))∧vs.length=done.length ∧
  ∀ (j:Nat) (v:Value) (o:List (Int × Int)),vs[j]? = some v → done[j]? = some o → w.ownsRow d 58 2 v o.length (pairCells o)∧(v.ownBlock=none ∨ v.ownBlock ≠ v16.ownBlock)
theorem pl_store {w w1:World} {d n:Nat} {v16 v':Value} {now:List (Int × Int)} {vs:List Value} {done:List (List (Int × Int))} {o:List (Int × Int)} (h:PLs w d v16 now vs done n) (hg:w.grownBy w1 none) (hv:w1.ownsRow w.heap.size 58 2 v' o.length (pairCells o)) (hd:d ≤ w.heap.size) (i:Nat) (hvi:vs.length=i) (hi:i < n) :
    PLs (w1.setCell ⟨d,i,none⟩ v') d v16 now (vs ++ [v']) (done ++ [o]) n:=by
  subst hvi
  obtain ⟨h1,h2,h3,h4⟩:=h
  have k1:=own_kept_no h1 hg
  have k2:=own_kept_no h2 hg
  obtain ⟨cur,hcur,-⟩:=own_heap k2
  have hset:w1.grownBy (w1.setCell ⟨d,vs.length,none⟩ v') (some d):=grown_set (World.grownBy.refl _ _) _ _
  have hvn:v'.ownBlock=none ∨ v'.ownBlock ≠ v16.ownBlock:=by
    cases hb:v'.ownBlock with
    | none=>exact .inl rfl
    | some x =>
      refine .inr (fun e => ?_)
      have e1:=own_base hv x hb
      have e2:=own_lt h1 x e.symm
      omega
  refine ⟨own_kept_ty k1 hset hcur (by decide),?_,by simp [h3],?_⟩
  · have:=(k2.stored vs.length v').1
    rw [List.set_append_right _ _ (Nat.le_refl _),Nat.sub_self] at this
    obtain ⟨m,hm⟩:∃ m,n - vs.length=m + 1:=⟨n - vs.length - 1,by omega⟩
    rw [hm,List.replicate_succ,List.set_cons_zero] at this
    rw [List.length_append,List.length_singleton,show n - (vs.length + 1)=m by omega,List.append_assoc]
    exact this
  · intro j v x e1 e2
    by_cases hj:j < vs.length
    · rw [List.getElem?_append_left hj] at e1
      rw [List.getElem?_append_left (by omega)] at e2
      obtain ⟨a,b⟩:=h4 j v x e1 e2
      exact ⟨own_kept_ty (own_kept_no a hg) hset hcur (by decide),b⟩
    · have hj2:j=vs.length:=by
        have:=(List.getElem?_eq_some_iff.1 e1).1
        simp at this;omega
      subst hj2
      rw [List.getElem?_append_right (Nat.le_refl _),Nat.sub_self] at e1
      rw [h3,List.getElem?_append_right (Nat.le_refl _),Nat.sub_self] at e2
      simp at e1 e2
      subst e1 e2
      exact ⟨own_kept_ty (own_lower hv hd) hset hcur (by decide),hvn⟩
theorem pl_push {w w1:World} {d n:Nat} {v16 v':Value} {now now':List (Int × Int)} {vs:List Value} {done:List (List (Int × Int))} (h:PLs w d v16 now vs done n) (hg:w.grownBy w1 v16.ownBlock) (hv:w1.ownsRow d 58 2 v' now'.length (pairCells now')) (hat:v'.ownBlock=v16.ownBlock ∨ ∃ b,v'.ownBlock=some b∧w.heap.size ≤ b):PLs w1 d v' now' vs done n:=by
  obtain ⟨h1,h2,h3,h4⟩:=h
  refine ⟨hv,own_kept_row h2 h1 hg (by decide),h3,fun j v o e1 e2 => ?_⟩
  obtain ⟨a,b⟩:=h4 j v o e1 e2
  refine ⟨a.kept hg b,?_⟩
  rcases hat with e | ⟨x,e,hx⟩
  · rw [e];exact b
  · rw [e]
    cases hb:v.ownBlock with
    | none=>exact .inl rfl
    | some y =>
      refine .inr (fun e3 => ?_)
      have:=own_lt a y hb
      have:=Option.some.inj e3
      omega
theorem pl_pop {w:World} {d n g m cap:Nat} {now:List (Int × Int)} {vs:List Value} {done:List (List (Int × Int))} (h:PLs w d (.slice (some ⟨g,0,none⟩) (m + 1) cap) now vs done n) (hm:now.length=m + 1):PLs w d (.slice (some ⟨g,0,none⟩) m cap) now.dropLast vs done n:=by
  obtain ⟨h1,h2,h3,h4⟩:=h
  refine ⟨?_,h2,h3,h4⟩
  have hne:now ≠ []:=fun e=>by rw [e] at hm;simp at hm
  rw [hm,← List.dropLast_concat_getLast hne,pairCells_app] at h1
  have:=ownsRow_pop (size:=2) (xs:=pairCells now.dropLast) (by rw [pairCells_len,List.length_dropLast,hm];simp) h1
  rw [List.length_dropLast,hm]
  simpa using this
theorem pl_inc {w:World} {d n g m cap:Nat} {a b:Int} {l:List (Int × Int)} {vs:List Value} {done:List (List (Int × Int))} (h:PLs w d (.slice (some ⟨g,0,none⟩) (m + 1) cap) (l ++ [(a,b)]) vs done n) (hm:l.length=m) (b':Int) :
    PLs (w.setCell ⟨g,m * 2 + 1,none⟩ (.int .i64 b')) d (.slice (some ⟨g,0,none⟩) (m + 1) cap) (l ++ [(a,b')]) vs done n:=by
  subst hm
  obtain ⟨h1,h2,h3,h4⟩:=h
  have hset:w.grownBy (w.setCell ⟨g,l.length * 2 + 1,none⟩ (.int .i64 b')) (some g):=grown_set (World.grownBy.refl _ _) _ _
  rw [List.length_append,List.length_singleton,pairCells_app] at h1
  obtain ⟨cur,hcur,-⟩:=own_heap h1
  refine ⟨?_,own_kept_ty h2 hset hcur (by decide),h3,fun j v o e1 e2 => ?_⟩
  · have:=(h1.stored (l.length * 2 + 1) (.int .i64 b')).1
    rw [List.set_append_right _ _ (by rw [pairCells_len];omega),pairCells_len,Nat.add_sub_cancel_left] at this
    rw [List.length_append,List.length_singleton,pairCells_app]
    exact this
  · obtain ⟨a,b⟩:=h4 j v o e1 e2
    exact ⟨a.kept hset b,b⟩
theorem plRun_step {gs:List Lx.G} {now:List (Int × Int)} {i k:Nat} {rest:List (List (Int × Int))} (h:Lx.plRun gs now i (k + 1)=some rest):∃ now' o rest',Lx.plStep gs now (i:Int)=some (now',o)∧Lx.plRun gs now' (i + 1) k=some rest'∧rest=o :: rest':=by
  unfold Lx.plRun at h
  cases hs:Lx.plStep gs now (i:Int) with
  | none=>rw [hs] at h;cases h
  | some x =>
    obtain ⟨now',o⟩:=x
    rw [hs] at h
    dsimp only at h
    cases hr:Lx.plRun gs now' (i + 1) k with
    | none=>rw [hr] at h;cases h
    | some r=>rw [hr] at h;exact ⟨now',o,r,rfl,hr,(Option.some.inj h).symm⟩
theorem own_capP {w:World} {base g m cap n:Nat} {e:TypeId} {size:Nat} {xs:List Value} (h:w.ownsRow base e size (.slice (some ⟨g,0,none⟩) m cap) n xs):n ≤ cap:=by
  rcases h.2 with ⟨h',_⟩ | ⟨g',cap',cur,h',_,_,hnc,_⟩
  · simp at h'
  · simp only [Value.slice.injEq] at h'
    rw [h'.2.2];exact hnc
theorem pl_no {w w':World} {d n:Nat} {v16:Value} {now:List (Int × Int)} {vs:List Value} {done:List (List (Int × Int))} (h:PLs w d v16 now vs done n) (hg:w.grownBy w' none):PLs w' d v16 now vs done n:=by
  obtain ⟨h1,h2,h3,h4⟩:=h
  exact ⟨own_kept_no h1 hg,own_kept_no h2 hg,h3,fun j v o e1 e2=>⟨own_kept_no (h4 j v o e1 e2).1 hg,(h4 j v o e1 e2).2⟩⟩
theorem list_last {α:Type} (l:List α):l=[] ∨ ∃ a b,l=a ++ [b]:=by
  rcases List.eq_nil_or_concat l with h | ⟨a,b,h⟩
  · exact .inl h
  · exact .inr ⟨a,b,by rw [h,List.concat_eq_append]⟩
set_option maxRecDepth 100000 in
set_option maxHeartbeats 8000000 in
theorem places_calls (v:Value) (L:List Lx.Tok) (w:World) (hT:Tks w v L) (hlen:L.length ≤ 100000) (hs:∀ t ∈ L,t.t.size ≤ 20000) (hm:MaxLen w) (hbl:Blanks w) (h5:5 ≤ w.heap.size)
    (hE:(Lx.groups (L.map Lx.kindOf)).2.1=0) (outs:List (List (Int × Int))) (hP:Lx.places (Lx.groups (L.map Lx.kindOf)).1 L.length=some outs) (hSm:Lx.Small (Lx.groups (L.map Lx.kindOf)).1) :
    Calls Tryz.prog 46 #[v] w fun e w' => ∃ ov gv,e=.returned (.tuple #[ov,gv,.int .i64 0])∧Grp w' w.heap.size 41 gv (Lx.groups (L.map Lx.kindOf)).1∧Outs w' w.heap.size ov outs∧Below w.heap.size w w':=by
  have HG:=mkA (condGroups_calls v L w hT hlen hs hm hbl h5)
  obtain ⟨gs,hgs⟩:∃ gs,(Lx.groups (L.map Lx.kindOf)).1=gs:=⟨_,rfl⟩
  obtain ⟨n,hn⟩:∃ n,L.length=n:=⟨_,rfl⟩
  rw [hgs,hn] at hP
  rw [hgs] at hSm ⊢
  rw [hn] at hlen
  obtain ⟨A,c,rfl,hc1,hc2,hA⟩:=hT
  rw [hn] at hc1 HG ⊢
  obtain ⟨gn,hgn⟩:∃ gn,gs.length=gn:=⟨_,rfl⟩
  have hgn1:gn ≤ 100000:=by rw [← hgn];exact hSm.1
  have HP:=mkA hP
  have HSM:=mkA hSm
  have HGS:=mkA hgs
  have HN:=mkA hn
  have HGN:=mkA hgn
  have HE:=mkA hE
  have HA:=mkA hA
  have hmm:=@run_makeMap Tryz.prog
  have hmk:=print_make_of (P:=Tryz.prog) 85 55 (.slice none 0 0) 24 Tryz.underlying85 (by kernel_rfl) rfl (by decide) n (by omega)
  clear hP hSm hgs hn hE hA hs hm hbl h5 hgn
  go_enter Tryz.func46,Tryz.ntmps46
  go_wp2_with (go_at_call 16;(refine HG.out.mono ?_);rintro e w1 ⟨gv,rfl,hgrp,hb⟩;rw [HE.out];rw [HGS.out] at hgrp;have HGRP:=mkA hgrp;have HB:=mkA hb;have hgv:∃ A c,gv=.slice A gn c:=(by obtain ⟨ls,e1,e2,e3⟩:=hgrp;rw [HGN.out] at e2;exact own_slice e2);obtain ⟨GA,GC,rfl⟩:=hgv;clear hgrp hb)
  obtain ⟨b,hb⟩:∃ b,w1.heap.size=b:=⟨_,rfl⟩
  have HBS:=mkA hb
  have hM0:=maps3_start w1 gs
  rw [hb] at hM0 ⊢
  have HM0:=mkA hM0
  have HB0:Below b w1 (((w1.alloc (.map #[] 0)).alloc (.map #[] 0)).alloc (.map #[] 0)):=(((Below.refl _ _).alloc (by omega) _).alloc (by simp;omega) _).alloc (by simp;omega) _
  have HB0:=mkA HB0
  clear hM0 hmm hb
  go_loopg [35] gn (fun kq v35 W => ∃ i m:Nat,v35=.int .i64 i∧Aside0 (i ≤ gn∧kq=gn - i∧m ≤ i * 100001)∧Aside0 (Maps3 W b i m gs)∧Aside0 (Below b w1 W)∧b + 3 ≤ W.heap.size)
  case atStart=>exact ⟨0,0,rfl,⟨by omega,rfl,by omega⟩,HM0,HB0,by have h1:=HBS.out;simp;omega⟩
  case round =>
    obtain ⟨i,m,rfl,HI,HMI,HBI,hsz⟩:=hrel
    have hi:=HI.out.1
    obtain ⟨wo,rfl⟩:∃ wo,wo=wr:=⟨_,rfl⟩
    by_cases hlt:i < gn
    · obtain ⟨g,hg⟩:∃ g,gs[i]? = some g:=⟨_,List.getElem?_eq_getElem (by have:=HGN.out;omega)⟩
      obtain ⟨gb,c',gl,cl,hgv,a0,a1,a2,a3,hlp,hlc,hcm,hglb,hgbb,hat⟩:=HGRP.out.at i g hg
      simp only [Value.slice.injEq] at hgv
      obtain ⟨rfl,-,rfl⟩:=hgv
      obtain ⟨hls,hvs⟩:=HSM.out.2 g (List.mem_iff_getElem?.2 ⟨i,hg⟩)
      obtain ⟨x,xs,hx⟩:∃ x xs,g.lines=x :: xs:=List.exists_cons_of_ne_nil (List.length_pos_iff.1 hlp)
      obtain ⟨q,hq⟩:∃ q,xs.length=q:=⟨_,rfl⟩
      have hlq:g.lines.length=q + 1:=by rw [hx,List.length_cons,hq]
      rw [hlq] at a0 hlc hls
      rw [HBS.out] at hglb hgbb
      have hcell:∀ (W:World) (k:Nat) (y:Value),Below b w1 W → w1.cell? ⟨gb,k,none⟩=some y → W.cell? ⟨gb,k,none⟩=some y:=fun W k y h1 h2=>(h1.cell hgbb).trans h2
      have b0:=hcell wo _ _ HBI.out a0
      have b1:=hcell wo _ _ HBI.out a1
      have b2:=hcell wo _ _ HBI.out a2
      have b3:=hcell wo _ _ HBI.out a3
      have HAT:=mkA (show ∀ (W:World),Below b w1 W → IntAt W gl 0 g.lines from fun W h1 j y hy=>(h1.cell hglb).trans (hat j y hy))
      have hx0:0 ≤ x∧x ≤ 100000:=hvs x (by rw [hx];exact List.mem_cons_self)
      have l0:wo.cell? ⟨gl,0,none⟩=some (.int .i64 x):=HAT.out wo HBI.out 0 x (by rw [hx];rfl)
      have HG:=mkA hg
      have HX:=mkA hx
      have HQ:=mkA hq
      have HVS:=mkA hvs
      have hnb1:b ≠ wo.heap.size:=by omega
      have hglw:gl < wo.heap.size:=by omega
      clear hg a0 a1 a2 a3 hat hcell hx hq hvs hlp hlq
      by_cases hcl:cl=1
      · subst hcl
        go_wp2_with (at_mapUpdate;refine wp_mapI_put _ rfl _ _ _ rfl b i (openF gs i) (by rfl) (HMI.out.1.kept (World.grownBy_alloc _ _ none) (by simp)) (by unfold maxLen;omega) x i (by rfl) (by rfl) (wf64 (by omega) (by omega)) (wf64 (by omega) (by omega)) ?_;intro w2 hm2 hg2;have hnb:=(hg2.block wo.heap.size (by simp) (by simp;omega)).trans (blk_new wo _);have hB2:Below b w1 w2:=(HBI.out.alloc (by omega) _).grown hg2 (by simp;omega) (fun k hk=>by cases hk;exact Nat.le_refl _);have n0:w2.cell? ⟨wo.heap.size,0,none⟩=some (.slice (some ⟨gl,0,none⟩) (q + 1) 1):=(by rw [blk_cell hnb];rfl);have HM2:=mkA hm2;have HNB:=mkA hnb;have HB2:=mkA hB2;have HG2:=mkA hg2;clear hm2 hg2 hnb hB2)
        have hsz2:wo.heap.size + 1 ≤ w2.heap.size:=by have:=HG2.out.size;simpa using this
        have HE2:=mkA ((HMI.out.2.1.kept (World.grownBy_alloc _ _ none) (by simp)).kept HG2.out (by simp))
        have HO2:=mkA ((HMI.out.2.2.kept (World.grownBy_alloc _ _ none) (by simp)).kept HG2.out (by simp))
        go_loopg [50] q (fun kq v50 W => ∃ j k:Nat,v50=.int .i64 j∧Aside0 (j ≤ q∧kq=q - j∧k ≤ i * 100001 + j)∧Aside0 (MapB W (b + 2) k (fun y=>othF gs i y || ((g.lines.drop 1).take j).contains y))∧Aside0 (w2.grownBy W (some (b + 2))))
        case atStart=>exact ⟨0,m,rfl,⟨by omega,rfl,by have:=HI.out;omega⟩,⟨by simpa using HO2.out⟩,⟨World.grownBy.refl _ _⟩⟩
        case round =>
          obtain ⟨j,k,rfl,HJ,HMJ,HGJ⟩:=hrel
          have hj:=HJ.out.1
          have hbw:Below b w1 wr:=HB2.out.grown HGJ.out (by omega) (fun k hk=>by cases hk;omega)
          have hnw:=blk_lt HNB.out
          have hnw2:wo.heap.size < wr.heap.size:=by have:=HGJ.out.size;omega
          have hglw2:gl < wr.heap.size:=by omega
          by_cases hjl:j < q
          · exfalso
            omega
          · have hjq:j=q:=by omega
            have hd:=othF_done gs i g HG.out j (by rw [HX.out];simp [HQ.out];omega)
            have hmj:=HMJ.out
            rw [hd] at hmj
            have HMQ:=mkA hmj
            have n1:wr.cell? ⟨wo.heap.size,0,none⟩=some (.slice (some ⟨gl,0,none⟩) (q + 1) 1):=HGJ.out.cell n0 (by simp;omega)
            obtain ⟨z,hz⟩:∃ z,g.lines[q]? = some z:=⟨_,List.getElem?_eq_getElem (by rw [HX.out];simp [HQ.out])⟩
            have hzb:0 ≤ z∧z ≤ 100000:=HVS.out z (List.mem_of_getElem? hz)
            have hzl:g.lines.getLastD 0=z:=by
              rw [HX.out] at hz ⊢
              rw [List.getLastD_eq_getLast?,List.getLast?_eq_getElem?]
              simp only [List.length_cons,HQ.out,Nat.add_sub_cancel]
              rw [hz];rfl
            have l2:wr.cell? ⟨gl,q,none⟩=some (.int .i64 z):=by
              have:=HAT.out wr hbw q z hz
              rw [Nat.zero_add] at this
              exact this
            have HZL:=mkA hzl
            have HBW:=mkA hbw
            subst hjq
            have hw1:IntKind.i64.wrap ((j:Int) + 1 - 1)=(j:Int):=by rw [Int.add_sub_cancel];exact IntWalk.i64_in _ (by omega)
            clear hz hzl hd hmj hbw hjl
            go_wp2_with (at_mapUpdate;refine wp_mapB_put _ rfl _ _ _ rfl (b + 1) i _ (by rfl) (HE2.out.kept HGJ.out (by simp)) (by unfold maxLen;omega) z true (by rfl) (by rfl) (wf64 (by omega) (by omega)) ?_;intro w3 hm3 hg3;have HM3:=mkA hm3;have HG3:=mkA hg3;clear hm3 hg3)
            go_roundg (gn - (i + 1))
            case measure=>have:=HI.out;omega
            case rel =>
              refine ⟨i + 1,k,by go_num,⟨by omega,rfl,by have:=HJ.out;omega⟩,⟨?_,?_,?_⟩,⟨HBW.out.grown HG3.out (by omega) (fun k hk=>by cases hk;omega)⟩,by have h1:=HG3.out.size;omega⟩
              · have h1:=(HM2.out.kept HGJ.out (by simp)).kept HG3.out (by simp)
                rw [← openF_step gs i g HG.out,HX.out]
                exact h1
              · rw [← endF_step gs i g HG.out z HZL.out]
                exact HM3.out
              · exact HMQ.out.kept HG3.out (by simp)
      · go_wp2_with (at_mapUpdate;refine wp_mapI_put _ rfl _ _ _ rfl b i (openF gs i) (by rfl) (HMI.out.1.kept (World.grownBy_alloc _ _ none) (by simp)) (by unfold maxLen;omega) x i (by rfl) (by rfl) (wf64 (by omega) (by omega)) (wf64 (by omega) (by omega)) ?_;intro w2 hm2 hg2;have hnb:=(hg2.block wo.heap.size (by simp) (by simp;omega)).trans (blk_new wo _);have hB2:Below b w1 w2:=(HBI.out.alloc (by omega) _).grown hg2 (by simp;omega) (fun k hk=>by cases hk;exact Nat.le_refl _);have n0:w2.cell? ⟨wo.heap.size,0,none⟩=some (.slice (some ⟨gl,0,none⟩) (q + 1) cl):=(by rw [blk_cell hnb];rfl);have HM2:=mkA hm2;have HNB:=mkA hnb;have HB2:=mkA hB2;have HG2:=mkA hg2;clear hm2 hg2 hnb hB2)
        have hsz2:wo.heap.size + 1 ≤ w2.heap.size:=by have:=HG2.out.size;simpa using this
        have HE2:=mkA ((HMI.out.2.1.kept (World.grownBy_alloc _ _ none) (by simp)).kept HG2.out (by simp))
        have HO2:=mkA ((HMI.out.2.2.kept (World.grownBy_alloc _ _ none) (by simp)).kept HG2.out (by simp))
        go_loopg [50] q (fun kq v50 W => ∃ j k:Nat,v50=.int .i64 j∧Aside0 (j ≤ q∧kq=q - j∧k ≤ i * 100001 + j)∧Aside0 (MapB W (b + 2) k (fun y=>othF gs i y || ((g.lines.drop 1).take j).contains y))∧Aside0 (w2.grownBy W (some (b + 2))))
        case atStart=>exact ⟨0,m,rfl,⟨by omega,rfl,by have:=HI.out;omega⟩,⟨by simpa using HO2.out⟩,⟨World.grownBy.refl _ _⟩⟩
        case round =>
          obtain ⟨j,k,rfl,HJ,HMJ,HGJ⟩:=hrel
          have hj:=HJ.out.1
          have hbw:Below b w1 wr:=HB2.out.grown HGJ.out (by omega) (fun k hk=>by cases hk;omega)
          have hnw:=blk_lt HNB.out
          have hnw2:wo.heap.size < wr.heap.size:=by have:=HGJ.out.size;omega
          have hglw2:gl < wr.heap.size:=by omega
          by_cases hjl:j < q
          · obtain ⟨y,hy⟩:∃ y,xs[j]? = some y:=⟨_,List.getElem?_eq_getElem (by have:=HQ.out;omega)⟩
            have hyd:(g.lines.drop 1)[j]? = some y:=by rw [HX.out];exact hy
            have hyb:0 ≤ y∧y ≤ 100000:=HVS.out y (by rw [HX.out];exact List.mem_cons_of_mem _ (List.mem_of_getElem? hy))
            have l1:wr.cell? ⟨gl,1 + j,none⟩=some (.int .i64 y):=by
              have:=HAT.out wr hbw (1 + j) y (by rw [HX.out,Nat.add_comm];exact hy)
              rw [Nat.zero_add] at this
              exact this
            have HYD:=mkA hyd
            clear hy hyd hbw
            go_wp2_with (at_mapUpdate;refine wp_mapB_put _ rfl _ _ _ rfl (b + 2) k _ (by rfl) HMJ.out (by have:=HJ.out;unfold maxLen;omega) y true (by rfl) (by rfl) (wf64 (by omega) (by omega)) ?_;intro w3 hm3 hg3;have HM3:=mkA hm3;have HG3:=mkA hg3;clear hm3 hg3)
            go_roundg (q - (j + 1))
            case measure=>have:=HJ.out;omega
            case rel =>
              refine ⟨j + 1,k + 1,by go_num,⟨by omega,rfl,by have:=HJ.out;omega⟩,⟨?_⟩,⟨grown_trans HGJ.out HG3.out⟩⟩
              have h1:=HM3.out
              rw [othF_step gs i g HG.out j y HYD.out _ rfl] at h1
              exact h1
          · have hjq:j=q:=by omega
            have hd:=othF_done gs i g HG.out j (by rw [HX.out];simp [HQ.out];omega)
            have hmj:=HMJ.out
            rw [hd] at hmj
            have HMQ:=mkA hmj
            have n1:wr.cell? ⟨wo.heap.size,0,none⟩=some (.slice (some ⟨gl,0,none⟩) (q + 1) cl):=HGJ.out.cell n0 (by simp;omega)
            obtain ⟨z,hz⟩:∃ z,g.lines[q]? = some z:=⟨_,List.getElem?_eq_getElem (by rw [HX.out];simp [HQ.out])⟩
            have hzb:0 ≤ z∧z ≤ 100000:=HVS.out z (List.mem_of_getElem? hz)
            have hzl:g.lines.getLastD 0=z:=by
              rw [HX.out] at hz ⊢
              rw [List.getLastD_eq_getLast?,List.getLast?_eq_getElem?]
              simp only [List.length_cons,HQ.out,Nat.add_sub_cancel]
              rw [hz];rfl
            have l2:wr.cell? ⟨gl,q,none⟩=some (.int .i64 z):=by
              have:=HAT.out wr hbw q z hz
              rw [Nat.zero_add] at this
              exact this
            have HZL:=mkA hzl
            have HBW:=mkA hbw
            subst hjq
            have hw1:IntKind.i64.wrap ((j:Int) + 1 - 1)=(j:Int):=by rw [Int.add_sub_cancel];exact IntWalk.i64_in _ (by omega)
            clear hz hzl hd hmj hbw hjl
            go_wp2_with (at_mapUpdate;refine wp_mapB_put _ rfl _ _ _ rfl (b + 1) i _ (by rfl) (HE2.out.kept HGJ.out (by simp)) (by unfold maxLen;omega) z true (by rfl) (by rfl) (wf64 (by omega) (by omega)) ?_;intro w3 hm3 hg3;have HM3:=mkA hm3;have HG3:=mkA hg3;clear hm3 hg3)
            go_roundg (gn - (i + 1))
            case measure=>have:=HI.out;omega
            case rel =>
              refine ⟨i + 1,k,by go_num,⟨by omega,rfl,by have:=HJ.out;omega⟩,⟨?_,?_,?_⟩,⟨HBW.out.grown HG3.out (by omega) (fun k hk=>by cases hk;omega)⟩,by have h1:=HG3.out.size;omega⟩
              · have h1:=(HM2.out.kept HGJ.out (by simp)).kept HG3.out (by simp)
                rw [← openF_step gs i g HG.out,HX.out]
                exact h1
              · rw [← endF_step gs i g HG.out z HZL.out]
                exact HM3.out
              · exact HMQ.out.kept HG3.out (by simp)
    · obtain rfl:i=gn:=by omega
      have hd:=HMI.out
      have HMD:=mkA hd
      obtain ⟨d,hdd⟩:∃ d,wo.heap.size=d:=⟨_,rfl⟩
      have hout:=made_nils wo n (by omega)
      rw [hdd] at hout hsz
      have HDD:=mkA hdd
      have HPL0:=mkA (show PLs (wo.alloc (.cells (madeCells #[.slice none 0 0] n) 55)) d (.slice none 0 0) [] [] [] n from ⟨own_nil _ _ _ _,by simpa using hout,rfl,fun j v o e=>by simp at e⟩)
      have HBD:=mkA ((Below.refl d wo).alloc (by omega) (.cells (madeCells #[.slice none 0 0] n) 55))
      clear hd hout
      go_wp2_with fail
      clear hmk hdd
      go_loopg [16,72] n (fun kq v16 v72 W => ∃ (j:Nat) (now:List (Int × Int)) (done:List (List (Int × Int))) (vs:List Value),v72=.int .i64 j∧Aside0 (j ≤ n∧kq=n - j∧vs.length=j∧now.length ≤ j∧(∀ p ∈ now,0 ≤ p.2∧p.2 ≤ (j:Int))∧∃ rest,Lx.plRun gs now j (n - j)=some rest∧done ++ rest=outs) ∧
        Aside0 (PLs W d v16 now vs done n)∧Aside0 (Below d wo W)∧d + 1 ≤ W.heap.size)
      case atStart=>exact ⟨0,[],[],[],rfl,⟨by omega,rfl,rfl,Nat.le_refl _,by simp,outs,by simpa [Lx.places] using HP.out,rfl⟩,HPL0,HBD,by have:=HDD.out;simp;omega⟩
      case round =>
        obtain ⟨j,now,done,vs,rfl,HJ,HPL,HBJ,hszj⟩:=hrel
        have hj:=HJ.out.1
        by_cases hjl:j < n
        · obtain ⟨-,-,hvj,hnl,hnb,rest,hrun,hrest⟩:=HJ.out
          obtain ⟨k,hk⟩:∃ k,n - j=k + 1:=⟨n - j - 1,by omega⟩
          rw [hk] at hrun
          obtain ⟨now',o,rest',hstep,hrun',hrr⟩:=plRun_step hrun
          have hgw:wo.grownBy wr none:=grown_below (World.grownBy.refl wo none) (by rw [HDD.out];exact HBJ.out)
          have htk:gs.take i=gs:=List.take_of_length_le (by rw [HGN.out];exact Nat.le_refl _)
          have l1:=(HMD.out.1.kept hgw (by simp)).look (j:Int) (wf64 (by omega) (by omega))
          have l2:=(HMD.out.2.1.kept hgw (by simp)).look (j:Int) (wf64 (by omega) (by omega))
          have l3:=(HMD.out.2.2.kept hgw (by simp)).look (j:Int) (wf64 (by omega) (by omega))
          unfold openF at l1
          unfold endF at l2
          unfold othF at l3
          rw [htk] at l1 l2 l3
          obtain ⟨A6,c6,rfl⟩:=own_slice HPL.out.1
          obtain ⟨nl,hnle⟩:∃ nl,now.length=nl:=⟨_,rfl⟩
          have HNL:=mkA hnle
          have HVJ:=mkA hvj
          have HNB:=mkA hnb
          have HRR:=mkA (show plFacts gs now' (j + 1) k done o outs from ⟨rest',hrun',by rw [← hrest,hrr,List.append_assoc];rfl⟩)
          have HK:=mkA hk
          have hdw:d ≤ wr.heap.size:=by omega
          have hnl2:nl ≤ j:=by rw [← hnle];exact hnl
          rw [hnle] at HPL ⊢
          unfold Lx.plStep at hstep
          cases hop:Lx.opener gs (j:Int) 0 with
          | some g0 =>
            rw [hop] at l1 hstep
            dsimp only [Option.map,Option.getD,Option.isSome] at l1
            cases hstep
            have hg0:g0 < i:=by
              have:=opener_lt gs (j:Int) 0 g0 hop
              rw [HGN.out] at this;omega
            clear hop hgw htk hnle hvj hnb hk hrun hrun' hrr hrest l2 l3
            go_wp2_with (first | (go_at_call 66;(refine (clone_calls _ now _ d HPL.out.1 (by first | (have h1:=HNL.out;omega) | (have h1:=HNL.out;simp at h1;omega))).mono ?_);rintro e w2 ⟨v2,rfl,hv2,hg2⟩;have h3:=pl_store HPL.out hg2 hv2 hdw j HVJ.out hjl;obtain ⟨A2,c2,hv2e⟩:=own_slice hv2;subst hv2e;have ho2:=own_kept_no HPL.out.2.1 hg2;have q0:=ho2.frozenAt j;have q1:w2.cell? ⟨d,j,none⟩=some (.slice none 0 0):=(by rw [ho2.cellAt j (by omega),List.getElem?_append_right (by rw [HVJ.out];exact Nat.le_refl _),HVJ.out,Nat.sub_self,List.getElem?_replicate,if_pos (by omega)]);have H3:=mkA h3;have HG2:=mkA hg2;clear h3 hv2 hg2 ho2) | (at_builtin;refine print_append_cells (w0:=wo) (W:=w2.setCell ⟨d,j,none⟩ (.slice A2 now.length c2)) d rfl (.tmp 95) (.tmp 98) 55 58 (.agg #[.int .i64 0,.int .i64 0]) 2 16 rfl Tryz.underlying55 info58 rfl (by decide) (by decide) (.slice A6 nl c6) nl (pairCells now) [.int .i64 g0,.int .i64 0] (by first | rfl | simp [Act.eval]) (by simp [Act.eval,World.setCell]) rfl (by simp [Value.oneCell']) (own_cast H3.out.1 HNL.out) (Below.setCell (p:=⟨d,j,none⟩) (HBJ.out.grown HG2.out (by omega) (fun k hk=>by cases hk)) (Nat.le_refl _) _) (by have h1:=HG2.out.size;simp [World.setCell];omega) (by omega) ?_;intro v5 w4 hv5 hb5 hg5 hat5;have H5:=mkA (pl_push (now':=now ++ [((g0:Int),0)]) H3.out hg5 (by rw [List.length_append,List.length_singleton,pairCells_app];exact own_cast hv5 (by rw [HNL.out])) hat5);have HB5:=mkA hb5;have HG5:=mkA hg5;clear hv5 hb5 hg5 hat5))
            go_roundg (n - (j + 1))
            case measure=>have:=HJ.out;omega
            case rel =>
              obtain ⟨rest',hr1,hr2⟩:=HRR.out
              have hk1:n - (j + 1)=k:=by have:=HK.out;omega
              refine ⟨j + 1,_,_,_,by go_num,⟨by omega,rfl,by rw [List.length_append,HVJ.out];rfl,by rw [List.length_append,List.length_singleton];have:=HNL.out;omega,fun p hp=>(List.mem_append.1 hp).elim (fun hp=>by have:=HNB.out p hp;omega) (fun hp=>by rw [List.mem_singleton.1 hp];dsimp only;omega),rest',by rw [hk1];exact hr1,hr2⟩,⟨H5.out⟩,⟨HB5.out⟩,?_⟩
              have h1:=HG2.out.size
              first | (simp only [World.setCell,Array.size_modify] at *;omega) | (have h2:=HG5.out.size;simp [World.setCell] at h2;omega) | (simp [World.setCell];omega)
          | none =>
            rw [hop] at hstep
            dsimp only at hstep
            rw [hop] at l1
            dsimp only [Option.map,Option.getD,Option.isSome] at l1
            cases hend:Lx.isEnd gs (j:Int)
            · rw [hend] at l2 hstep
              rw [if_neg Bool.false_ne_true] at hstep
              cases hoth:Lx.isOther gs (j:Int)
              · rw [hoth] at l3 hstep
                rw [if_neg Bool.false_ne_true] at hstep
                cases hstep
                clear hop hgw htk hnle hvj hnb hk hrun hrun' hrr hrest hend hoth
                go_wp2_with (first | (go_at_call 66;(refine (clone_calls _ now _ d HPL.out.1 (by first | (have h1:=HNL.out;omega) | (have h1:=HNL.out;simp at h1;omega))).mono ?_);rintro e w2 ⟨v2,rfl,hv2,hg2⟩;have h3:=pl_store HPL.out hg2 hv2 hdw j HVJ.out hjl;obtain ⟨A2,c2,hv2e⟩:=own_slice hv2;subst hv2e;have ho2:=own_kept_no HPL.out.2.1 hg2;have q0:=ho2.frozenAt j;have q1:w2.cell? ⟨d,j,none⟩=some (.slice none 0 0):=(by rw [ho2.cellAt j (by omega),List.getElem?_append_right (by rw [HVJ.out];exact Nat.le_refl _),HVJ.out,Nat.sub_self,List.getElem?_replicate,if_pos (by omega)]);have H3:=mkA h3;have HG2:=mkA hg2;clear h3 hv2 hg2 ho2))
                go_roundg (n - (j + 1))
                case measure=>have:=HJ.out;omega
                case rel =>
                  obtain ⟨rest',hr1,hr2⟩:=HRR.out
                  have hk1:n - (j + 1)=k:=by have:=HK.out;omega
                  refine ⟨j + 1,_,_,_,by go_num,⟨by omega,rfl,by rw [List.length_append,HVJ.out];rfl,by have:=HNL.out;omega,fun p hp=>by have:=HNB.out p hp;omega,rest',by rw [hk1];exact hr1,hr2⟩,⟨H3.out⟩,⟨Below.setCell (p:=⟨d,j,none⟩) (HBJ.out.grown HG2.out (by omega) (fun k hk=>by cases hk)) (Nat.le_refl _) _⟩,?_⟩
                  have h1:=HG2.out.size
                  first | (simp only [World.setCell,Array.size_modify] at *;omega) | (have h2:=HG5.out.size;simp [World.setCell] at h2;omega) | (simp [World.setCell];omega)
              · rw [hoth] at l3 hstep
                rw [if_pos rfl] at hstep
                rcases list_last now with rfl | ⟨l,p,rfl⟩
                · simp at hstep
                obtain ⟨m,hm⟩:∃ m,l.length=m:=⟨_,rfl⟩
                have HMM:=mkA hm
                obtain rfl:nl=m + 1:=by have:=HNL.out;simp at this;omega
                obtain ⟨g6,c6',e6,-,-⟩:=HPL.out.1.form (by simp)
                simp only [Value.slice.injEq] at e6
                obtain ⟨rfl,-,rfl⟩:=e6
                have hc6:m + 1 ≤ c6:=by have h7:=own_capP HPL.out.1;simp at h7;omega
                have hpb:=HNB.out p (by simp)
                simp at hstep
                obtain ⟨rfl,rfl⟩:=hstep
                have x1:wr.cell? ⟨g6,m * 2 + 1,none⟩=some (.int .i64 p.2):=by
                  rw [World.ownsRow.cellAt (own_cast HPL.out.1 (m:=m + 1) (by simp [hm])) (m * 2 + 1) (by omega),pairCells_app,List.getElem?_append_right (by rw [pairCells_len,hm];omega),pairCells_len,hm,Nat.add_sub_cancel_left]
                  rfl
                have z1:=(own_cast HPL.out.1 (m:=m + 1) (by simp [hm])).frozenAt (m * 2 + 1)
                have hinc:=pl_inc (a:=p.1) (b:=p.2) HPL.out hm (p.2 + 1)
                have HINC:=mkA hinc
                have hw1:IntKind.i64.wrap (p.2 + 1)=p.2 + 1:=IntWalk.i64_in _ (by omega)
                clear hop hgw htk hnle hvj hnb hk hrun hrun' hrr hrest hend hoth hm hinc
                go_wp2_with fail
                go_region
                obtain ⟨W,hW⟩:∃ W,(wr.setCell ⟨g6,m * 2 + 1,none⟩ (.int .i64 (p.2 + 1))).drew=W:=⟨_,rfl⟩
                rw [hW]
                have hgd:(wr.setCell ⟨g6,m * 2 + 1,none⟩ (.int .i64 (p.2 + 1))).grownBy W none:=hW ▸ grown_drew (World.grownBy.refl _ _)
                have hpw:=pl_no HINC.out hgd
                have HPW:=mkA hpw
                have HPP:=mkA (pl_pop hpw (by simp [HMM.out]))
                rw [List.dropLast_concat] at HPP
                have hgdb:d ≤ g6:=by have:=own_base HPL.out.1 g6 rfl;exact this
                have HBW:=mkA ((Below.setCell (p:=⟨g6,m * 2 + 1,none⟩) HBJ.out hgdb (.int .i64 (p.2 + 1))).grown hgd (by simp [World.setCell];omega) (fun k hk=>by cases hk))
                have hdW:d ≤ W.heap.size:=by have h1:=hgd.size;simp [World.setCell] at h1;omega
                have hdW1:d + 1 ≤ W.heap.size:=by have h1:=hgd.size;simp [World.setCell] at h1;omega
                clear hgd hpw hW x1 z1
                go_wp2_with (first | (go_at_call 66;(refine (clone_calls _ l _ d HPP.out.1 (by first | (have h1:=HNL.out;omega) | (have h1:=HNL.out;simp at h1;omega))).mono ?_);rintro e w2 ⟨v2,rfl,hv2,hg2⟩;have h3:=pl_store HPW.out hg2 hv2 hdW j HVJ.out hjl;obtain ⟨A2,c2,hv2e⟩:=own_slice hv2;subst hv2e;have ho2:=own_kept_no HPW.out.2.1 hg2;have q0:=ho2.frozenAt j;have q1:w2.cell? ⟨d,j,none⟩=some (.slice none 0 0):=(by rw [ho2.cellAt j (by omega),List.getElem?_append_right (by rw [HVJ.out];exact Nat.le_refl _),HVJ.out,Nat.sub_self,List.getElem?_replicate,if_pos (by omega)]);have H3:=mkA h3;have HG2:=mkA hg2;clear h3 hv2 hg2 ho2))
                go_roundg (n - (j + 1))
                case measure=>have:=HJ.out;omega
                case rel =>
                  obtain ⟨rest',hr1,hr2⟩:=HRR.out
                  have hk1:n - (j + 1)=k:=by have:=HK.out;omega
                  refine ⟨j + 1,_,_,_,by go_num,⟨by omega,rfl,by rw [List.length_append,HVJ.out];rfl,by have:=HNL.out;simp at this ⊢;omega,fun q hq=>(List.mem_append.1 hq).elim (fun hq=>by have:=HNB.out q (List.mem_append_left _ hq);omega) (fun hq=>by rw [List.mem_singleton.1 hq];dsimp only;omega),rest',by rw [hk1];exact hr1,hr2⟩,⟨H3.out⟩,⟨Below.setCell (p:=⟨d,j,none⟩) (HBW.out.grown HG2.out (by omega) (fun k hk=>by cases hk)) (Nat.le_refl _) _⟩,?_⟩
                  have h1:=HG2.out.size
                  first | (simp only [World.setCell,Array.size_modify] at *;omega) | (have h2:=HG5.out.size;simp [World.setCell] at h2;omega) | (simp [World.setCell];omega)
            · rw [hend] at l2 hstep
              rw [if_pos rfl] at hstep
              rcases list_last now with rfl | ⟨l,p,rfl⟩
              · simp at hstep
              obtain ⟨m,hm⟩:∃ m,l.length=m:=⟨_,rfl⟩
              have HMM:=mkA hm
              obtain rfl:nl=m + 1:=by have:=HNL.out;simp at this;omega
              obtain ⟨g6,c6',e6,-,-⟩:=HPL.out.1.form (by simp)
              simp only [Value.slice.injEq] at e6
              obtain ⟨rfl,-,rfl⟩:=e6
              have hc6:m + 1 ≤ c6:=by have h7:=own_capP HPL.out.1;simp at h7;omega
              have hpb:=HNB.out p (by simp)
              simp at hstep
              obtain ⟨rfl,rfl⟩:=hstep
              have HPP:=mkA (pl_pop HPL.out (by simp [hm]))
              rw [List.dropLast_concat] at HPP
              clear hop hgw htk hnle hvj hnb hk hrun hrun' hrr hrest hend hm l3
              go_wp2_with (first | (go_at_call 66;(refine (clone_calls _ l _ d HPP.out.1 (by first | (have h1:=HNL.out;omega) | (have h1:=HNL.out;simp at h1;omega))).mono ?_);rintro e w2 ⟨v2,rfl,hv2,hg2⟩;have h3:=pl_store HPP.out hg2 hv2 hdw j HVJ.out hjl;obtain ⟨A2,c2,hv2e⟩:=own_slice hv2;subst hv2e;have ho2:=own_kept_no HPP.out.2.1 hg2;have q0:=ho2.frozenAt j;have q1:w2.cell? ⟨d,j,none⟩=some (.slice none 0 0):=(by rw [ho2.cellAt j (by omega),List.getElem?_append_right (by rw [HVJ.out];exact Nat.le_refl _),HVJ.out,Nat.sub_self,List.getElem?_replicate,if_pos (by omega)]);have H3:=mkA h3;have HG2:=mkA hg2;clear h3 hv2 hg2 ho2))
              go_roundg (n - (j + 1))
              case measure=>have:=HJ.out;omega
              case rel =>
                obtain ⟨rest',hr1,hr2⟩:=HRR.out
                have hk1:n - (j + 1)=k:=by have:=HK.out;omega
                refine ⟨j + 1,_,_,_,by go_num,⟨by omega,rfl,by rw [List.length_append,HVJ.out];rfl,by have:=HNL.out;simp at this;omega,fun p hp=>by have:=HNB.out p (List.mem_append_left _ hp);omega,rest',by rw [hk1];exact hr1,hr2⟩,⟨H3.out⟩,⟨Below.setCell (p:=⟨d,j,none⟩) (HBJ.out.grown HG2.out (by omega) (fun k hk=>by cases hk)) (Nat.le_refl _) _⟩,?_⟩
                have h1:=HG2.out.size
                first | (simp only [World.setCell,Array.size_modify] at *;omega) | (have h2:=HG5.out.size;simp [World.setCell] at h2;omega) | (simp [World.setCell];omega)
        · have hjn:j=n:=by omega
          obtain ⟨-,-,hvj,hnl,-,rest,hrun,hrest⟩:=HJ.out
          have hrn:rest=[]:=by
            rw [hjn,Nat.sub_self] at hrun
            unfold Lx.plRun at hrun
            exact (Option.some.inj hrun).symm
          rw [hrn,List.append_nil] at hrest
          subst hrest
          obtain ⟨h1,h2,h3,h4⟩:=HPL.out
          have hlen2:done.length=n:=by rw [← h3,hvj,hjn]
          have hout:Outs wr d (.slice (some ⟨d,0,none⟩) n n) done:=⟨vs,h3,by rw [hlen2];rw [show n - vs.length=0 by omega] at h2;simpa using h2,fun a v o e1 e2=>(h4 a v o e1 e2).1⟩
          have HOUT:=mkA hout
          have hgw:wo.grownBy wr none:=grown_below (World.grownBy.refl wo none) (by rw [HDD.out];exact HBJ.out)
          have HGR:=mkA (HGRP.out.no ((grown_below (World.grownBy.refl w1 none) (by rw [HBS.out];exact HBI.out)).trans hgw))
          clear hvj hnl hrun h1 h2 h3 h4 hgw hout hlen2 hrn
          subst hjn
          go_wp2_with fail
          go_ret3
          have hwb:w.heap.size ≤ b:=by have h1:=HB.out.size;have h2:=HBS.out;omega
          have hout:=HOUT.out
          obtain ⟨vs,h1,h2,h3⟩:=hout
          exact ⟨_,_,rfl,HGR.out,⟨vs,h1,own_lower h2 (by omega),fun a v o e1 e2=>own_lower (h3 a v o e1 e2) (by omega)⟩,(HB.out.trans (HBI.out.mono hwb)).trans (HBJ.out.mono (by omega))⟩
namespace Lx
def other (ch:List Int) (p:Int × Int):Bool:=ch.getD p.1.toNat 0 != p.2
def hidden (ch:List Int) (o:List (Int × Int)):Bool:=o.any (other ch)
end Lx
theorem Ints.grown {w w':World} {v:Value} {L:List Int} (h:Ints w v L) (hg:w.grownBy w' none):Ints w' v L:=by
  obtain ⟨A,c,e,h1,h2,h3⟩:=h
  refine ⟨A,c,e,h1,h2,h3.imp id ?_⟩
  rintro ⟨g,o,e2,h4,h5⟩
  exact ⟨g,o,e2,fun i t ht=>hg.cell (h4 i t ht) (by simp),Nat.lt_of_lt_of_le h5 hg.size⟩
set_option maxRecDepth 100000 in
theorem view1_calls (w:World) (b:Nat) (cv:Value) (ch:List Int) (p q:Int) (hb:w.heap[b]? = some (.cells #[cv] 39 (0,0))) (hI:Ints w cv ch) (h0:0 ≤ p) (h1:p < ch.length) (hl:ch.length ≤ 1000000) :
    Calls Tryz.prog 48 #[.agg #[.int .i64 p,.int .i64 q],.pointer (some ⟨b,0,none⟩)] w fun e w'=>e=.returned (.bool (Lx.other ch (p,q)))∧w.grownBy w' none:=by
  obtain ⟨A,c,rfl,hc1,hc2,hA⟩:=hI
  obtain ⟨n,hn⟩:∃ n,ch.length=n:=⟨_,rfl⟩
  rw [hn] at h1 hl hc1 hb
  obtain ⟨k,rfl⟩:∃ k:Nat,p=(k:Int):=⟨p.toNat,by omega⟩
  obtain ⟨x,hx⟩:∃ x,ch[k]? = some x:=⟨_,List.getElem?_eq_getElem (by omega)⟩
  have hne:ch ≠ []:=fun e=>by rw [e] at hx;simp at hx
  obtain ⟨g,o,rfl,hat,hgl⟩:=hA.resolve_left hne
  have a0:=hat k x hx
  have hbl:=blk_lt hb
  have c0:w.cell? ⟨b,0,none⟩=some (.slice (some ⟨g,o,none⟩) n c):=by rw [blk_cell hb];rfl
  have hoth:Lx.other ch ((k:Int),q)=(x != q):=by
    unfold Lx.other
    dsimp only
    rw [Int.toNat_natCast,List.getD_eq_getElem?_getD,hx];rfl
  rw [hoth]
  have h2:k < n:=by omega
  clear hb hn hx hne hat hoth hA h1 h0
  go_enter Tryz.func48,Tryz.ntmps48
  go_wp2_with fail
  go_quiet (fail)
  go_wp2_with fail
  go_ret
  exact ⟨rfl,grown_drewN (World.grownBy_alloc _ _ _) _⟩
theorem pair_at:∀ (o:List (Int × Int)) (i:Nat) (p:Int × Int),o[i]? = some p → (pairCells o)[i * 2]? = some (.int .i64 p.1)∧(pairCells o)[i * 2 + 1]? = some (.int .i64 p.2)
  | [],i,p,h=>by simp at h
  | q :: r,0,p,h=>by simp at h;subst h;exact ⟨rfl,rfl⟩
  | q :: r,i + 1,p,h=>by
    have:=pair_at r i p (by simpa using h)
    have e:pairCells (q :: r)=.int .i64 q.1 :: .int .i64 q.2 :: pairCells r:=rfl
    rw [e,show (i + 1) * 2 + 1=i * 2 + 1 + 1 + 1 from by omega,show (i + 1) * 2=i * 2 + 1 + 1 from by omega]
    exact this
set_option maxRecDepth 100000 in
theorem search_calls (w:World) (base b:Nat) (cv v:Value) (ch:List Int) (o:List (Int × Int)) (hb:w.heap[b]? = some (.cells #[cv] 39 (0,0))) (hI:Ints w cv ch) (hl:ch.length ≤ 1000000) (hv:w.ownsRow base 58 2 v o.length (pairCells o)) (ho:o.length ≤ 1000000) (hin:∀ p ∈ o,0 ≤ p.1∧p.1 < ch.length) :
    Calls Tryz.prog 67 #[v,.func (.func 48) #[] #[.pointer (some ⟨b,0,none⟩)]] w fun e w' => ∃ r:Int,e=.returned (.int .i64 r)∧decide (0 ≤ r)=Lx.hidden ch o∧w.grownBy w' none:=by
  obtain ⟨A,c,rfl⟩:=own_slice hv
  obtain ⟨n,hn⟩:∃ n,o.length=n:=⟨_,rfl⟩
  obtain ⟨R,hR⟩:∃ R,Lx.hidden ch o=R:=⟨_,rfl⟩
  rw [hR]
  have HB:=mkA hb
  have HI:=mkA hI
  have HV:=mkA hv
  have HIN:=mkA hin
  have HN:=mkA hn
  have HR:=mkA hR
  have HL:=mkA hl
  rw [hn] at ho ⊢
  clear hb hI hv hin hn hR hl
  go_enter Tryz.func67,Tryz.ntmps67
  go_wp2_with fail
  go_loopg [8] n (fun kq v8 W => ∃ i:Nat,v8=.int .i64 i∧Aside0 (i ≤ n∧kq=n - i∧(o.drop i).any (Lx.other ch)=R)∧Aside0 (w.grownBy W none))
  case atStart=>exact ⟨0,rfl,⟨by omega,rfl,HR.out⟩,⟨World.grownBy.refl _ _⟩⟩
  case round =>
    obtain ⟨i,rfl,HJ,HW⟩:=hrel
    have hi:=HJ.out.1
    by_cases hlt:i < n
    · obtain ⟨p,hp⟩:∃ p,o[i]? = some p:=⟨_,List.getElem?_eq_getElem (by have:=HN.out;omega)⟩
      obtain ⟨g,c',e',-,-⟩:=HV.out.form (by have:=HN.out;omega)
      simp only [Value.slice.injEq] at e'
      obtain ⟨rfl,-,rfl⟩:=e'
      obtain ⟨k0,k1⟩:=pair_at o i p hp
      have hvw:=own_kept_no HV.out HW.out
      have hno:=HN.out
      have a0:wr.cell? ⟨g,i * 2,none⟩=some (.int .i64 p.1):=by rw [hvw.cellAt (i * 2) (by omega)];exact k0
      have a1:wr.cell? ⟨g,i * 2 + 1,none⟩=some (.int .i64 p.2):=by rw [hvw.cellAt (i * 2 + 1) (by omega)];exact k1
      have hpin:=HIN.out p (List.mem_of_getElem? hp)
      have hdr:(o.drop i).any (Lx.other ch)=(Lx.other ch p || (o.drop (i + 1)).any (Lx.other ch)):=by
        obtain ⟨hi2,rfl⟩:=List.getElem?_eq_some_iff.1 hp
        rw [List.drop_eq_getElem_cons hi2,List.any_cons]
      rw [HJ.out.2.2] at hdr
      have HC:=mkA (view1_calls wr b cv ch p.1 p.2 ((HW.out.block b (blk_lt HB.out) (by simp)).trans HB.out) (HI.out.grown HW.out) hpin.1 hpin.2 HL.out)
      obtain ⟨f,hf⟩:∃ f,Lx.other ch (p.1,p.2)=f:=⟨_,rfl⟩
      have hdr2:R=(f || (o.drop (i + 1)).any (Lx.other ch)):=by rw [hdr,← hf]
      rw [hf] at HC
      have HD:=mkA hdr2
      clear hp k0 k1 hvw hno hpin hdr hf hdr2
      cases f
      · go_wp2_with (go_at_call 48;(refine HC.out.mono ?_);rintro e w' ⟨rfl,hg⟩;have HG2:=mkA hg;clear hg)
        go_roundg (n - (i + 1))
        case measure=>have:=HJ.out;omega
        case rel =>
          refine ⟨i + 1,by go_num,⟨by omega,rfl,?_⟩,⟨grown_trans HW.out HG2.out⟩⟩
          have h1:=HD.out
          rw [Bool.false_or] at h1
          exact h1.symm
      · go_wp2_with (go_at_call 48;(refine HC.out.mono ?_);rintro e w' ⟨rfl,hg⟩;have HG2:=mkA hg;clear hg)
        go_ret
        have h1:=HD.out
        rw [Bool.true_or] at h1
        exact ⟨_,rfl,by rw [h1];exact decide_eq_true (by omega),grown_trans HW.out HG2.out⟩
    · obtain rfl:i=n:=by omega
      have h1:=HJ.out.2.2
      rw [List.drop_eq_nil_of_le (by rw [HN.out];exact Nat.le_refl _),List.any_nil] at h1
      have H1:=mkA h1
      clear h1
      go_wp2_with fail
      go_ret
      exact ⟨_,rfl,by rw [← H1.out];rfl,HW.out⟩
set_option maxRecDepth 100000 in
theorem hidden_calls (w:World) (base b:Nat) (cv v:Value) (ch:List Int) (o:List (Int × Int)) (hb:w.heap[b]? = some (.cells #[cv] 39 (0,0))) (hI:Ints w cv ch) (hl:ch.length ≤ 1000000) (hv:w.ownsRow base 58 2 v o.length (pairCells o)) (ho:o.length ≤ 1000000) (hin:∀ p ∈ o,0 ≤ p.1∧p.1 < ch.length) :
    Calls Tryz.prog 47 #[v,.func (.func 48) #[] #[.pointer (some ⟨b,0,none⟩)]] w fun e w'=>e=.returned (.bool (Lx.hidden ch o))∧w.grownBy w' none:=by
  have hs:=search_calls w base b cv v ch o hb hI hl hv ho hin
  obtain ⟨R,hR⟩:∃ R,Lx.hidden ch o=R:=⟨_,rfl⟩
  rw [hR] at hs ⊢
  have H:=mkA hs
  clear hb hI hl hv ho hin hs hR
  go_enter Tryz.func47,Tryz.ntmps47
  go_wp2_with (go_at_call 67;(refine H.out.mono ?_);rintro e w' ⟨r,rfl,hr,hg⟩;have HG:=mkA hg;clear hg)
  go_ret
  exact ⟨rfl,HG.out⟩
namespace Lx
def seen (t:Tok) (ch:List Int) (o:List (Int × Int)):Bool:=t.k == 0 || (t.k != 7 && !hidden ch o)
def viewL (ch:List Int):List Tok → List (List (Int × Int)) → Nat → List Int
  | t :: r,o :: s,i=>if seen t ch o=true then (i:Int) :: viewL ch r s (i + 1) else viewL ch r s (i + 1)
  | _,_,_=>[]
theorem viewL_at (ch:List Int) (L:List Tok) (outs:List (List (Int × Int))) (i:Nat) (t:Tok) (o:List (Int × Int)) (h1:L[i]? = some t) (h2:outs[i]? = some o) (j:Nat) :
    viewL ch (L.drop i) (outs.drop i) j=if seen t ch o=true then (j:Int) :: viewL ch (L.drop (i + 1)) (outs.drop (i + 1)) (j + 1) else viewL ch (L.drop (i + 1)) (outs.drop (i + 1)) (j + 1):=by
  obtain ⟨a,rfl⟩:=List.getElem?_eq_some_iff.1 h1
  obtain ⟨b,rfl⟩:=List.getElem?_eq_some_iff.1 h2
  rw [List.drop_eq_getElem_cons a,List.drop_eq_getElem_cons b]
  rfl
def Fits (ch:List Int) (gs:List G) (outs:List (List (Int × Int))):Prop:=ch.length=gs.length∧(∀ (i:Nat) (x:Int) (g:G),ch[i]? = some x → gs[i]? = some g → 0 ≤ x∧x < g.br)∧∀ o ∈ outs,o.length ≤ 1000000∧∀ p ∈ o,0 ≤ p.1∧p.1 < ch.length
end Lx
theorem Outs.no {w w':World} {base:Nat} {ov:Value} {outs:List (List (Int × Int))} (h:Outs w base ov outs) (hg:w.grownBy w' none):Outs w' base ov outs:=by
  obtain ⟨vs,h1,h2,h3⟩:=h
  exact ⟨vs,h1,own_kept_no h2 hg,fun j v o e1 e2=>own_kept_no (h3 j v o e1 e2) hg⟩
set_option maxRecDepth 100000 in
set_option maxHeartbeats 8000000 in
theorem view_calls (v cv:Value) (L:List Lx.Tok) (ch:List Int) (w:World) (hT:Tks w v L) (hI:Ints w cv ch) (hlen:L.length ≤ 100000) (hs:∀ t ∈ L,t.t.size ≤ 20000) (hm:MaxLen w) (hbl:Blanks w) (h5:5 ≤ w.heap.size)
    (hE:(Lx.groups (L.map Lx.kindOf)).2.1=0) (outs:List (List (Int × Int))) (hP:Lx.places (Lx.groups (L.map Lx.kindOf)).1 L.length=some outs) (hSm:Lx.Small (Lx.groups (L.map Lx.kindOf)).1) (hol:outs.length=L.length) (hF:Lx.Fits ch (Lx.groups (L.map Lx.kindOf)).1 outs) :
    Calls Tryz.prog 20 #[v,cv] w fun e w' => ∃ rv,e=.returned (.tuple #[rv,.int .i64 0])∧w'.ownsRow w.heap.size 3 1 rv (Lx.viewL ch L outs 0).length (intCells (Lx.viewL ch L outs 0))∧Below w.heap.size w w':=by
  have hB1:Below w.heap.size w (w.alloc (.cells #[cv] 39)):=(Below.refl _ _).alloc (Nat.le_refl _) _
  have hpl:=places_calls v L (w.alloc (.cells #[cv] 39)) (hT.below hB1) hlen hs (hm.belowN hB1 (by omega)) (hbl.below hB1 (by omega)) (by simp;omega) hE outs hP hSm
  have hgl:=hSm.1
  obtain ⟨gs,hgs⟩:∃ gs,(Lx.groups (L.map Lx.kindOf)).1=gs:=⟨_,rfl⟩
  rw [hgs] at hF hgl hpl
  have HPL:=mkA hpl
  have HB1:=mkA hB1
  obtain ⟨n,hn⟩:∃ n,L.length=n:=⟨_,rfl⟩
  obtain ⟨A,c,rfl,hc1,hc2,hA⟩:=hT
  rw [hn] at hc1 hol hlen HPL ⊢
  obtain ⟨CA,CC,rfl,hd1,hd2,hCA⟩:=hI
  obtain ⟨gn,hgn⟩:∃ gn,gs.length=gn:=⟨_,rfl⟩
  rw [hgn] at hgl
  have hcg:ch.length=gn:=by rw [hF.1,hgn]
  have hI2:Ints (w.alloc (.cells #[.slice CA ch.length CC] 39)) (.slice CA ch.length CC) ch:=Ints.below ⟨CA,CC,rfl,hd1,hd2,hCA⟩ hB1
  rw [hcg] at hI2 HPL HB1 hd1 ⊢
  have HI2:=mkA hI2
  have HA:=mkA hA
  have HF:=mkA hF
  have HN:=mkA hn
  have HOL:=mkA hol
  have HGN:=mkA hgn
  have HCG:=mkA hcg
  obtain ⟨full,hfull⟩:∃ full,Lx.viewL ch L outs 0=full:=⟨_,rfl⟩
  have HFULL:=mkA hfull
  rw [hfull]
  clear hfull
  obtain ⟨base,hbase⟩:∃ base,w.heap.size=base:=⟨_,rfl⟩
  have HBASE:=mkA hbase
  rw [hbase]
  clear hm hbl hs hE hP hSm hF hpl hB1 hn hA hCA hgs hol hI2 hgn hcg hbase
  go_enter Tryz.func20,Tryz.ntmps20
  go_wp2_with (go_at_call 46;(refine HPL.out.mono ?_);rintro e w1 ⟨ov,gv,rfl,hgrp,hout,hb⟩;have HGRP:=mkA hgrp;have HOUT:=mkA hout;have HB:=mkA hb;have hgv:∃ A c,gv=.slice A gn c:=(by obtain ⟨ls,e1,e2,e3⟩:=hgrp;rw [HGN.out] at e2;exact own_slice e2);obtain ⟨GA,GC,rfl⟩:=hgv;have hov:∃ A c,ov=.slice A n c:=(by obtain ⟨vs,e1,e2,e3⟩:=hout;rw [HOL.out] at e2;exact own_slice e2);obtain ⟨OA,OC,rfl⟩:=hov;have c0:w1.cell? ⟨w.heap.size,0,none⟩=some (.slice CA gn CC):=(hb.cell (show w.heap.size < _ by simp)).trans (by rw [blk_cell (blk_new w _)];rfl);have hszz:=hb.size;have hwb:w.heap.size < w1.heap.size:=(by simp at hszz;omega);clear hgrp hout hb hszz)
  have hga:(w.alloc (.cells #[.slice CA gn CC] 39)).grownBy w1 none:=grown_below (World.grownBy.refl _ none) HB.out
  have hbox:=(hga.block w.heap.size (by simp) (by simp)).trans (blk_new w (.cells #[.slice CA gn CC] 39))
  have HBOX:=mkA hbox
  have HI1:=mkA (HI2.out.below HB.out)
  have HG1:=mkA (grown_trans (World.grownBy_alloc w (.cells #[.slice CA gn CC] 39) none) hga)
  clear hga hbox
  go_loopg [31] gn (fun kq v31 W => ∃ i:Nat,v31=.int .i64 i∧Aside0 (i ≤ gn∧kq=gn - i)∧Aside0 (w1.grownBy W none))
  case atStart=>exact ⟨0,rfl,⟨by omega,rfl⟩,⟨World.grownBy.refl _ _⟩⟩
  case round =>
    obtain ⟨i,rfl,HJ,HW⟩:=hrel
    have hi:=HJ.out.1
    have c1:=HW.out.cell c0 (by simp)
    have hwbr:w.heap.size < wr.heap.size:=by have:=HW.out.size;omega
    by_cases hlt:i < gn
    · obtain ⟨g,hg⟩:∃ g,gs[i]? = some g:=⟨_,List.getElem?_eq_getElem (by have:=HGN.out;omega)⟩
      obtain ⟨x,hx⟩:∃ x,ch[i]? = some x:=⟨_,List.getElem?_eq_getElem (by have:=HCG.out;omega)⟩
      obtain ⟨hx0,hx1⟩:=HF.out.2.1 i x g hx hg
      obtain ⟨gb,c',gl,cl,hgv,a0,a1,a2,a3,-,-,-,-,hgb1,-⟩:=HGRP.out.at i g hg
      simp only [Value.slice.injEq] at hgv
      obtain ⟨rfl,-,rfl⟩:=hgv
      have a0:=HW.out.cell a0 (by simp)
      have a1:=HW.out.cell a1 (by simp)
      have a2:=HW.out.cell a2 (by simp)
      have a3:=HW.out.cell a3 (by simp)
      obtain ⟨CA',CC',e1,-,-,hor⟩:=HI1.out
      rw [HCG.out] at e1
      simp only [Value.slice.injEq] at e1
      obtain ⟨rfl,-,rfl⟩:=e1
      obtain ⟨cg,co,rfl,hat,hcgl⟩:=hor.resolve_left (fun e=>by rw [e] at hx;simp at hx)
      have x0:=HW.out.cell (hat i x hx) (by simp)
      have hcgw:cg < wr.heap.size:=Nat.lt_of_lt_of_le hcgl HW.out.size
      have hgbw:gb < wr.heap.size:=Nat.lt_of_lt_of_le hgb1 HW.out.size
      have hd1:decide (x < 0)=false:=decide_eq_false (by omega)
      have hd2:decide (g.br ≤ x)=false:=decide_eq_false (by omega)
      clear hg hx hor hat hx0 hx1 hcgl hgb1
      go_wp2_with fail
      go_quiet (fail)
      go_wp2_with fail
      go_roundg (gn - (i + 1))
      case measure=>have:=HJ.out;omega
      case rel=>exact ⟨i + 1,by go_num,⟨by omega,rfl⟩,⟨grown_drewN (grown_trans HW.out (World.grownBy_alloc _ _ _)) _⟩⟩
    · obtain rfl:i=gn:=by omega
      obtain ⟨w2,rfl⟩:∃ w2,w2=wr:=⟨_,rfl⟩
      obtain ⟨b2,hb2⟩:∃ b2,w2.heap.size=b2:=⟨_,rfl⟩
      have HB2:=mkA hb2
      have HG2:=mkA (grown_trans HG1.out HW.out)
      have hsb:b2 ≤ w2.heap.size:=by omega
      have hwb2:w.heap.size < b2:=by omega
      clear hlt hb2
      go_wp2_with fail
      go_loopg [11,53] n (fun kq v11 v53 W => ∃ (j:Nat) (acc:List Int),v53=.int .i64 j∧Aside0 (j ≤ n∧kq=n - j∧acc.length ≤ j∧acc ++ Lx.viewL ch (L.drop j) (outs.drop j) j=full)∧Aside0 (W.ownsRow b2 3 1 v11 acc.length (intCells acc))∧Aside0 (Below b2 w2 W)∧b2 ≤ W.heap.size)
      case atStart=>exact ⟨0,[],rfl,⟨by omega,rfl,Nat.le_refl _,HFULL.out⟩,⟨own_nil _ _ _ _⟩,⟨Below.refl _ _⟩,hsb⟩
      case round =>
        obtain ⟨j,acc,rfl,HK,HACC,HBK,hszk⟩:=hrel
        have hj:=HK.out.1
        obtain ⟨A11,c11,rfl⟩:=own_slice HACC.out
        obtain ⟨al,hal⟩:∃ al,acc.length=al:=⟨_,rfl⟩
        have HAL:=mkA hal
        rw [hal] at HACC ⊢
        have hgw:w2.grownBy wr none:=grown_below (World.grownBy.refl w2 none) (by rw [HB2.out];exact HBK.out)
        by_cases hjl:j < n
        · obtain ⟨t,ht⟩:∃ t,L[j]? = some t:=⟨_,List.getElem?_eq_getElem (by have:=HN.out;omega)⟩
          obtain ⟨o,ho⟩:∃ o,outs[j]? = some o:=⟨_,List.getElem?_eq_getElem (by have:=HOL.out;omega)⟩
          obtain ⟨g,o1,rfl,hta,hgl2⟩:=HA.out.resolve_left (fun e=>by rw [e] at ht;simp at ht)
          obtain ⟨a0,a1,a2,a3⟩:=hta j t ht
          have hgall:=grown_trans HG2.out hgw
          have a0:=hgall.cell a0 (by simp)
          have a1:=hgall.cell a1 (by simp)
          have a2:=hgall.cell a2 (by simp)
          have a3:=hgall.cell a3 (by simp)
          have houtw:=(HOUT.out.no HW.out).no hgw
          obtain ⟨vs,hv1,hv2,hv3⟩:=houtw
          obtain ⟨ov,hov⟩:∃ ov,vs[j]? = some ov:=⟨_,List.getElem?_eq_getElem (by have:=HOL.out;omega)⟩
          have hrow:=hv3 j ov o hov ho
          obtain ⟨ro,rc,rfl⟩:=own_slice hrow
          rw [HOL.out] at hv2
          obtain ⟨og,oc',e2,-,hogl⟩:=hv2.form (by omega)
          simp only [Value.slice.injEq] at e2
          obtain ⟨rfl,-,rfl⟩:=e2
          have r0:wr.cell? ⟨og,j,none⟩=some (.slice ro o.length rc):=by rw [hv2.cellAt j (by omega)];exact hov
          have hfit:=HF.out.2.2 o (List.mem_of_getElem? ho)
          have hbox2:=(((HW.out.trans hgw).block w.heap.size hwb (by simp)).trans HBOX.out)
          have hbox3:=((World.grownBy_alloc wr (.cells #[.int .i64 t.k,.string t.b,.string t.t,.int .i64 t.a] 29) none).block w.heap.size (by omega) (by simp)).trans hbox2
          have hI3:=(HI1.out.grown (HW.out.trans hgw)).grown (World.grownBy_alloc wr (.cells #[.int .i64 t.k,.string t.b,.string t.t,.int .i64 t.a] 29) none)
          have hhc:=hidden_calls _ _ w.heap.size _ _ ch o hbox3 hI3 (by rw [HCG.out];omega) (own_kept_no hrow (World.grownBy_alloc wr (.cells #[.int .i64 t.k,.string t.b,.string t.t,.int .i64 t.a] 29) none)) hfit.1 hfit.2
          obtain ⟨hd,hhd⟩:∃ hd,Lx.hidden ch o=hd:=⟨_,rfl⟩
          rw [hhd] at hhc
          have HHC:=mkA hhc
          have hva:=Lx.viewL_at ch L outs j t o ht ho j
          have hseen:Lx.seen t ch o=(t.k == 0 || (t.k != 7 && !hd)):=by unfold Lx.seen;rw [hhd]
          have hfl:=HK.out.2.2.2
          rw [hva,hseen] at hfl
          have HFL:=mkA hfl
          have hall:al ≤ j:=by rw [← hal];exact HK.out.2.2.1
          have hglw:g < wr.heap.size:=by have:=hgall.size;omega
          clear ht ho hta hgl2 hgall hv1 hv2 hv3 hov hrow hbox2 hbox3 hI3 hhc hhd hva hseen hfl hfit hal hgw c0 c1
          cases hk0:(t.k == 0)
          · cases hk7:(t.k != 7)
            · go_wp2_with (first | (go_at_call 47;(refine HHC.out.mono ?_);rintro e w3 ⟨rfl,hg3⟩;have n0:w3.cell? ⟨wr.heap.size,0,none⟩=some (.int .i64 t.k):=hg3.cell (show (wr.alloc (.cells #[.int .i64 t.k,.string t.b,.string t.t,.int .i64 t.a] 29)).cell? ⟨wr.heap.size,0,none⟩=some (.int .i64 t.k) from by rw [blk_cell (blk_new wr _)];rfl) (by simp);have hg4:=grown_trans (World.grownBy_alloc wr (.cells #[.int .i64 t.k,.string t.b,.string t.t,.int .i64 t.a] 29) none) hg3;have HOW:=mkA (own_kept_no HACC.out hg4);have HBW:=mkA (HBK.out.grown hg4 hszk (fun k hk=>by cases hk));have hszw:b2 ≤ w3.heap.size:=Nat.le_trans hszk hg4.size;clear hg3 hg4))
              go_roundg (n - (j + 1))
              case measure=>have:=HK.out;omega
              case rel =>
                have h1:=HFL.out
                simp only [hk0,hk7,Bool.true_or,Bool.false_or,Bool.true_and,Bool.false_and,Bool.not_true,Bool.false_eq_true,if_false] at h1
                exact ⟨j + 1,acc,by go_num,⟨by omega,rfl,by rw [HAL.out];omega,h1⟩,⟨by rw [HAL.out];exact HOW.out⟩,HBW,hszw⟩
            · cases hd
              · go_wp2_with (first | (go_at_call 47;(refine HHC.out.mono ?_);rintro e w3 ⟨rfl,hg3⟩;have n0:w3.cell? ⟨wr.heap.size,0,none⟩=some (.int .i64 t.k):=hg3.cell (show (wr.alloc (.cells #[.int .i64 t.k,.string t.b,.string t.t,.int .i64 t.a] 29)).cell? ⟨wr.heap.size,0,none⟩=some (.int .i64 t.k) from by rw [blk_cell (blk_new wr _)];rfl) (by simp);have hg4:=grown_trans (World.grownBy_alloc wr (.cells #[.int .i64 t.k,.string t.b,.string t.t,.int .i64 t.a] 29) none) hg3;have HOW:=mkA (own_kept_no HACC.out hg4);have HBW:=mkA (HBK.out.grown hg4 hszk (fun k hk=>by cases hk));have hszw:b2 ≤ w3.heap.size:=Nat.le_trans hszk hg4.size;clear hg3 hg4) | (at_builtin;refine print_append_cells (w0:=w2) (W:=w3) b2 rfl (.tmp 76) (.tmp 78) 39 3 (.int .i64 0) 1 8 rfl Tryz.underlying39 info3 rfl (by decide) (by decide) (.slice A11 al c11) al (intCells acc) [.int .i64 j] (by rfl) (by simp [Act.eval]) rfl (by simp [Value.oneCell']) HOW.out HBW.out hszw (by omega) ?_;intro v5 w4 hv5 hb5 hg5 hat5;have HV5:=mkA hv5;have HB5:=mkA hb5;have hsz5:=hg5.size;clear hv5 hb5 hg5 hat5))
                go_roundg (n - (j + 1))
                case measure=>have:=HK.out;omega
                case rel =>
                  have h1:=HFL.out
                  simp only [hk0,hk7,Bool.true_or,Bool.false_or,Bool.true_and,Bool.not_false,if_true] at h1
                  refine ⟨j + 1,acc ++ [(j:Int)],by go_num,⟨by omega,rfl,by rw [List.length_append,List.length_singleton,HAL.out];omega,?_⟩,⟨?_⟩,HB5,by omega⟩
                  · rw [← h1,List.append_assoc];rfl
                  · have h2:=HV5.out
                    unfold intCells at h2 ⊢
                    rw [List.length_append,List.length_singleton,HAL.out,List.map_append]
                    exact h2
              · go_wp2_with (first | (go_at_call 47;(refine HHC.out.mono ?_);rintro e w3 ⟨rfl,hg3⟩;have n0:w3.cell? ⟨wr.heap.size,0,none⟩=some (.int .i64 t.k):=hg3.cell (show (wr.alloc (.cells #[.int .i64 t.k,.string t.b,.string t.t,.int .i64 t.a] 29)).cell? ⟨wr.heap.size,0,none⟩=some (.int .i64 t.k) from by rw [blk_cell (blk_new wr _)];rfl) (by simp);have hg4:=grown_trans (World.grownBy_alloc wr (.cells #[.int .i64 t.k,.string t.b,.string t.t,.int .i64 t.a] 29) none) hg3;have HOW:=mkA (own_kept_no HACC.out hg4);have HBW:=mkA (HBK.out.grown hg4 hszk (fun k hk=>by cases hk));have hszw:b2 ≤ w3.heap.size:=Nat.le_trans hszk hg4.size;clear hg3 hg4))
                go_roundg (n - (j + 1))
                case measure=>have:=HK.out;omega
                case rel =>
                  have h1:=HFL.out
                  simp only [hk0,hk7,Bool.true_or,Bool.false_or,Bool.true_and,Bool.false_and,Bool.not_true,Bool.false_eq_true,if_false] at h1
                  exact ⟨j + 1,acc,by go_num,⟨by omega,rfl,by rw [HAL.out];omega,h1⟩,⟨by rw [HAL.out];exact HOW.out⟩,HBW,hszw⟩
          · have hk7:(t.k != 7)=true:=by rw [beq_iff_eq.mp hk0];rfl
            go_wp2_with (first | (go_at_call 47;(refine HHC.out.mono ?_);rintro e w3 ⟨rfl,hg3⟩;have n0:w3.cell? ⟨wr.heap.size,0,none⟩=some (.int .i64 t.k):=hg3.cell (show (wr.alloc (.cells #[.int .i64 t.k,.string t.b,.string t.t,.int .i64 t.a] 29)).cell? ⟨wr.heap.size,0,none⟩=some (.int .i64 t.k) from by rw [blk_cell (blk_new wr _)];rfl) (by simp);have hg4:=grown_trans (World.grownBy_alloc wr (.cells #[.int .i64 t.k,.string t.b,.string t.t,.int .i64 t.a] 29) none) hg3;have HOW:=mkA (own_kept_no HACC.out hg4);have HBW:=mkA (HBK.out.grown hg4 hszk (fun k hk=>by cases hk));have hszw:b2 ≤ w3.heap.size:=Nat.le_trans hszk hg4.size;clear hg3 hg4) | (at_builtin;refine print_append_cells (w0:=w2) (W:=w3) b2 rfl (.tmp 76) (.tmp 78) 39 3 (.int .i64 0) 1 8 rfl Tryz.underlying39 info3 rfl (by decide) (by decide) (.slice A11 al c11) al (intCells acc) [.int .i64 j] (by rfl) (by simp [Act.eval]) rfl (by simp [Value.oneCell']) HOW.out HBW.out hszw (by omega) ?_;intro v5 w4 hv5 hb5 hg5 hat5;have HV5:=mkA hv5;have HB5:=mkA hb5;have hsz5:=hg5.size;clear hv5 hb5 hg5 hat5))
            go_roundg (n - (j + 1))
            case measure=>have:=HK.out;omega
            case rel =>
              have h1:=HFL.out
              simp only [hk0,hk7,Bool.true_or,Bool.false_or,Bool.true_and,Bool.not_false,if_true] at h1
              refine ⟨j + 1,acc ++ [(j:Int)],by go_num,⟨by omega,rfl,by rw [List.length_append,List.length_singleton,HAL.out];omega,?_⟩,⟨?_⟩,HB5,by omega⟩
              · rw [← h1,List.append_assoc];rfl
              · have h2:=HV5.out
                unfold intCells at h2 ⊢
                rw [List.length_append,List.length_singleton,HAL.out,List.map_append]
                exact h2
        · have hjn:j=n:=by omega
          have hfl:=HK.out.2.2.2
          rw [List.drop_eq_nil_of_le (by rw [HN.out];omega)] at hfl
          have hacc:acc=full:=by
            unfold Lx.viewL at hfl
            simpa using hfl
          have HAF:=mkA hacc
          have HBB:=mkA (((Below.refl w.heap.size w).grown (HG2.out) (Nat.le_refl _) (fun k hk=>by cases hk)).trans (HBK.out.mono (by omega)))
          clear hfl hacc hgw hal
          subst hjn
          go_wp2_with fail
          go_ret2
          refine ⟨_,rfl,?_,?_⟩
          · have h2:=HACC.out
            rw [← HAF.out,HAL.out]
            exact own_lower h2 (by have:=HBASE.out;omega)
          · have h2:=HBB.out
            rw [HBASE.out] at h2
            exact h2
namespace Lx
inductive Cn where
  | expr (rest:ByteArray) (names:List ByteArray)
  | dfn (name kind:ByteArray) (names:List ByteArray)
def Cn.names:Cn → List ByteArray
  | .expr _ l=>l
  | .dfn _ _ l=>l
end Lx
def FunAt (w:World) (fv:Value):Lx.Cn → Prop
  | .expr rest _ => ∃ b,fv=.func (.func 88) #[] #[.pointer (some ⟨b,0,none⟩)]∧w.heap[b]? = some (.cells #[.string rest] 9 (0,0))∧rest.size ≤ 20000
  | .dfn name kind _ => ∃ b c,fv=.func (.func 90) #[] #[.pointer (some ⟨b,0,none⟩),.pointer (some ⟨c,0,none⟩)]∧w.heap[b]? = some (.cells #[.string name] 9 (0,0))∧w.heap[c]? = some (.cells #[.string kind] 9 (0,0))
theorem FunAt.kept {w w':World} {fv:Value} {c:Lx.Cn} {row:Option Nat} (h:FunAt w fv c) (hg:w.grownBy w' row) (hr:∀ k cs t,row=some k → w.heap[k]? = some (.cells cs t (0,0)) → t ≠ 9):FunAt w' fv c:=by
  have key:∀ (b:Nat) (s:ByteArray),w.heap[b]? = some (.cells #[.string s] 9 (0,0)) → w'.heap[b]? = some (.cells #[.string s] 9 (0,0)):=fun b s hb=>(hg.block b (blk_lt hb) (fun e=>hr b _ _ e.symm hb rfl)).trans hb
  cases c with
  | expr rest l =>
    obtain ⟨b,e,h1,h2⟩:=h
    exact ⟨b,e,key _ _ h1,h2⟩
  | dfn name kind l =>
    obtain ⟨b,c,e,h1,h2⟩:=h
    exact ⟨b,c,e,key _ _ h1,key _ _ h2⟩
theorem FunAt.no {w w':World} {fv:Value} {c:Lx.Cn} (h:FunAt w fv c) (hg:w.grownBy w' none):FunAt w' fv c:=h.kept hg (fun k cs t e=>by cases e)
def cnCells (ps:List (Value × Value)):List Value:=ps.flatMap fun p=>[p.1,p.2]
theorem cnCells_len (ps:List (Value × Value)):(cnCells ps).length=ps.length * 2:=by
  induction ps with
  | nil=>rfl
  | cons p r ih=>unfold cnCells at ih ⊢;rw [List.flatMap_cons,List.length_append,ih];simp;omega
theorem cnCells_at:∀ (ps:List (Value × Value)) (i:Nat) (p:Value × Value),ps[i]? = some p → (cnCells ps)[i * 2]? = some p.1∧(cnCells ps)[i * 2 + 1]? = some p.2
  | [],i,p,h=>by simp at h
  | q :: r,0,p,h=>by simp at h;subst h;exact ⟨rfl,rfl⟩
  | q :: r,i + 1,p,h=>by
    have:=cnCells_at r i p (by simpa using h)
    have e:cnCells (q :: r)=q.1 :: q.2 :: cnCells r:=rfl
    rw [e,show (i + 1) * 2 + 1=i * 2 + 1 + 1 + 1 from by omega,show (i + 1) * 2=i * 2 + 1 + 1 from by omega]
    exact this
def CnOf (w:World) (base:Nat) (ps:List (Value × Value)) (cl:List Lx.Cn):Prop:=∀ (i:Nat) (p:Value × Value) (c:Lx.Cn),ps[i]? = some p → cl[i]? = some c → FunAt w p.1 c∧w.ownsRow base 9 1 p.2 c.names.length (c.names.map Value.string)
def Cns (w:World) (base:Nat) (v:Value) (cl:List Lx.Cn):Prop:=∃ ps:List (Value × Value),ps.length=cl.length∧w.ownsRow base 102 2 v cl.length (cnCells ps)∧CnOf w base ps cl
theorem CnOf.kept {w w':World} {base:Nat} {ps:List (Value × Value)} {cl:List Lx.Cn} {row:Option Nat} (h:CnOf w base ps cl) (hg:w.grownBy w' row) (hr:∀ k cs t,row=some k → w.heap[k]? = some (.cells cs t (0,0)) → t ≠ 9):CnOf w' base ps cl:=by
  intro i p c h1 h2
  obtain ⟨h3,h4⟩:=h i p c h1 h2
  refine ⟨h3.kept hg hr,h4.kept hg ?_⟩
  cases row with
  | none=>exact Classical.em _
  | some k =>
    rcases h4.2 with ⟨e,-⟩ | ⟨g,cap,cur,e,hb,hh,-,-,-,-⟩
    · exact .inl (by rw [e];rfl)
    · refine .inr ?_
      rw [e]
      intro e2
      have e2:some g=some k:=e2
      rw [← Option.some.inj e2] at hr
      exact hr g _ _ rfl hh rfl
theorem Cns.no {w w':World} {base:Nat} {v:Value} {cl:List Lx.Cn} (h:Cns w base v cl) (hg:w.grownBy w' none):Cns w' base v cl:=by
  obtain ⟨ps,h1,h2,h3⟩:=h
  exact ⟨ps,h1,own_kept_no h2 hg,h3.kept hg (fun k cs t e=>by cases e)⟩
theorem Cns.below {w w':World} {base:Nat} {v:Value} {cl:List Lx.Cn} (h:Cns w base v cl) (hb:Below w.heap.size w w'):Cns w' base v cl:=h.no (grown_below (World.grownBy.refl w none) hb)
end Go.Proofs.YtjnafjgonoficaaGreatDoor
