/-
  Lists that are the same compare so: texts and pairs; and the program's Of where it refuses. Conditions: as each says.
  The conditions of a group, against the tokens of its lines. No program in sight. Conditions: the group is shut.
  What the reference's Dead comes to. Conditions: the tokens lie in memory; they are short.
  A token's branches, the names asked for, the dead branches: program and reference give the same rows and errors. Conditions: the tokens lie in memory; they are short; the library's variables are as their text lays them.
  What CondLines comes to: true. Conditions: the library's variables are as their text lays them.
  What CondPlaces comes to: true. Conditions: the library's variables are as their text lays them.
-/
import Derived.Test.YtjnafjgonoficaaGreatDoorF22
import Derived.Test.YtjnafjgonoficaaGreatDoorF23
import Derived.Test.YtjnafjgonoficaaGreatDoorF21
import Derived.Test.YtjnafjgonoficaaGreatDoorF20
import Derived.Test.YtjnafjgonoficaaGreatDoorF07
import Derived.Test.YtjnafjgonoficaaGreatDoorF08
import Derived.Test.YtjnafjgonoficaaGreatDoorF06
set_option linter.unusedVariables false
set_option linter.unusedSimpArgs false
namespace Go.Proofs.YtjnafjgonoficaaGreatDoor
open Go.RowKit Go.Proofs.YtjnafjgonoficaaGreatDoorW.PrintWords
theorem str_at0 {w:World} {base:Nat} {A:Option Addr} {c:Nat} {l:List ByteArray} {N:Nat} (h:w.ownsRow base 9 1 (.slice A N c) N (strCells l)) (hN:l.length=N) {i:Nat} {u:ByteArray} (hu:l[i]? = some u):∃ g,A=some ⟨g,0,none⟩∧N ≤ c∧w.cell? ⟨g,i,none⟩=some (.string u):=by
  obtain ⟨g,c',e,hc,-,-,h1⟩:=str_at h hN hu
  simp only [Value.slice.injEq] at e
  obtain ⟨rfl,-,rfl⟩:=e
  exact ⟨g,rfl,hc,h1⟩
theorem eqStrs_calls (v1 v2:Value) (L:List ByteArray) (w:World) (ba bb:Nat) (hn2:L.length ≤ 1000000000) (h1:w.ownsRow ba 9 1 v1 L.length (strCells L)) (h2:w.ownsRow bb 9 1 v2 L.length (strCells L)) :
    Calls Tryz.prog 37 #[v1,v2] w fun e w'=>e=.returned (.bool true)∧Drawn0 w w':=by
  obtain ⟨A1,c1,rfl⟩:=own_slice h1
  obtain ⟨A2,c2,rfl⟩:=own_slice h2
  obtain ⟨n,hn⟩:∃ n,L.length=n:=⟨_,rfl⟩
  rw [hn] at hn2 h1 h2 ⊢
  have H1:=mkA (fun i u hu=>str_at0 h1 hn (i:=i) (u:=u) hu)
  have H2:=mkA (fun i u hu=>str_at0 h2 hn (i:=i) (u:=u) hu)
  have HN:=mkA hn
  clear h1 h2 hn
  go_enter Tryz.func37,Tryz.ntmps37
  go_wp2_with fail
  go_loopg [5] n (fun kq v5 w' => ∃ i:Nat,v5=.int .i64 i∧Aside0 (i ≤ n∧kq=n - i)∧Drawn0 w w')
  case atStart=>exact ⟨0,rfl,⟨by omega,rfl⟩,Drawn0.refl _⟩
  case round =>
    obtain ⟨i,rfl,HA,⟨m,rfl⟩⟩:=hrel
    have hi:=HA.out.1
    by_cases hlt:i < n
    · obtain ⟨t,ht⟩:∃ t,L[i]? = some t:=⟨_,List.getElem?_eq_getElem (by have:=HN.out;omega)⟩
      obtain ⟨g1,rfl,hc1,a0⟩:=H1.out i t ht
      obtain ⟨g2,rfl,hc2,b0⟩:=H2.out i t ht
      clear H1 H2 ht
      go_wp2
      go_quiet (fail)
      go_wp2_with fail
      go_roundg (n - (i + 1))
      case measure=>have:=HA.out;omega
      case rel=>exact ⟨i + 1,by go_num,⟨by omega,rfl⟩,(by repeat (first | exact Drawn0.refl _ | assumption | apply Drawn0.step))⟩
    · obtain rfl:i=n:=by omega
      go_wp2_with fail
      go_ret
      exact ⟨by simp,(by repeat (first | exact Drawn0.refl _ | assumption | apply Drawn0.step))⟩
theorem pairs_cell:∀ (l:List (Int × Int)) (i:Nat) (p:Int × Int),l[i]? = some p → (pairCells l)[i * 2]? = some (.int .i64 p.1)∧(pairCells l)[i * 2 + 1]? = some (.int .i64 p.2)
  | [],i,p,h=>by simp at h
  | q :: r,0,p,h=>by simp at h;subst h;exact ⟨rfl,rfl⟩
  | q :: r,i + 1,p,h=>by
    obtain ⟨a,b⟩:=pairs_cell r i p (by simpa using h)
    have e:pairCells (q :: r)=.int .i64 q.1 :: .int .i64 q.2 :: pairCells r:=rfl
    rw [e,show (i + 1) * 2=i * 2 + 1 + 1 by omega]
    exact ⟨by simpa using a,by simpa using b⟩
theorem pairs_at2 {w:World} {base:Nat} {A:Option Addr} {c:Nat} {l:List (Int × Int)} {N:Nat} (h:w.ownsRow base 58 2 (.slice A N c) N (pairCells l)) (hN:l.length=N) {i:Nat} {p:Int × Int} (hu:l[i]? = some p):∃ g,A=some ⟨g,0,none⟩∧N ≤ c∧w.cell? ⟨g,i * 2,none⟩=some (.int .i64 p.1)∧w.cell? ⟨g,i * 2 + 1,none⟩=some (.int .i64 p.2):=by
  have hi:=(List.getElem?_eq_some_iff.1 hu).1
  obtain ⟨c0,c1⟩:=pairs_cell l i p hu
  rcases h.2 with ⟨e,hn⟩ | ⟨g,cap,cur,e,hb,hh,h1,-⟩
  · omega
  · simp only [Value.slice.injEq] at e
    obtain ⟨rfl,-,rfl⟩:=e
    exact ⟨g,rfl,h1,by rw [h.cellAt (i * 2) (by omega)];exact c0,by rw [h.cellAt (i * 2 + 1) (by omega)];exact c1⟩
theorem eqi58 (d:Nat) (a:Int) (w:World):(Op.equalIn (d + 1) 3 (.int .i64 a) (.int .i64 a)).run Tryz.prog w=.ok true w:=by
  rw [run_equalIn_int w d 3 .i64 .i64 a a Tryz.underlying3];simp
theorem prt0 (a b:Int) (w:World):(part 3 #[.int .i64 a,.int .i64 b] 0).run Tryz.prog w=.ok (.int .i64 a) w:=by
  simp [part,Tryz.isAgg3]
theorem prt1 (a b:Int) (w:World):(part 3 #[.int .i64 a,.int .i64 b] 1).run Tryz.prog w=.ok (.int .i64 b) w:=by
  simp [part,Tryz.isAgg3]
theorem szo (w:World):(sizeOf 3).run Tryz.prog w=.ok 1 w:=Tryz.sizeOf3 w
theorem pq (a b:Int) (w:World):(Op.equalIn 10000 58 (.agg #[.int .i64 a,.int .i64 b]) (.agg #[.int .i64 a,.int .i64 b])).run Tryz.prog w=.ok true w:=by
  rw [show (10000:Nat)=9998 + 1 + 1 from rfl]
  rw [Op.equalIn]
  simp only [Sem.run_bind,run_underlying Tryz.underlying58,Result.andThen_ok,szo]
  simp only [Std.Legacy.Range.forIn_eq_forIn_range',Std.Legacy.Range.size]
  simp [List.range',prt0,prt1,eqi58]
theorem eqTwos_calls (v1 v2:Value) (L:List (Int × Int)) (w:World) (ba bb:Nat) (hn2:L.length ≤ 1000000000) (h1:w.ownsRow ba 58 2 v1 L.length (pairCells L)) (h2:w.ownsRow bb 58 2 v2 L.length (pairCells L)) :
    Calls Tryz.prog 36 #[v1,v2] w fun e w'=>e=.returned (.bool true)∧Drawn0 w w':=by
  obtain ⟨A1,c1,rfl⟩:=own_slice h1
  obtain ⟨A2,c2,rfl⟩:=own_slice h2
  obtain ⟨n,hn⟩:∃ n,L.length=n:=⟨_,rfl⟩
  rw [hn] at hn2 h1 h2 ⊢
  have H1:=mkA (fun i u hu=>pairs_at2 h1 hn (i:=i) (p:=u) hu)
  have H2:=mkA (fun i u hu=>pairs_at2 h2 hn (i:=i) (p:=u) hu)
  have HN:=mkA hn
  clear h1 h2 hn
  go_enter Tryz.func36,Tryz.ntmps36
  go_wp2_with fail
  go_loopg [5] n (fun kq v5 w' => ∃ i:Nat,v5=.int .i64 i∧Aside0 (i ≤ n∧kq=n - i)∧Drawn0 w w')
  case atStart=>exact ⟨0,rfl,⟨by omega,rfl⟩,Drawn0.refl _⟩
  case round =>
    obtain ⟨i,rfl,HA,⟨m,rfl⟩⟩:=hrel
    have hi:=HA.out.1
    by_cases hlt:i < n
    · obtain ⟨t,ht⟩:∃ t,L[i]? = some t:=⟨_,List.getElem?_eq_getElem (by have:=HN.out;omega)⟩
      obtain ⟨g1,rfl,hc1,a0,a1⟩:=H1.out i t ht
      obtain ⟨g2,rfl,hc2,b0,b1⟩:=H2.out i t ht
      have hq:=fun W=>pq t.1 t.2 W
      clear H1 H2 ht
      go_wp2
      go_quiet (fail)
      go_wp2_with fail
      go_roundg (n - (i + 1))
      case measure=>have:=HA.out;omega
      case rel=>exact ⟨i + 1,by go_num,⟨by omega,rfl⟩,(by repeat (first | exact Drawn0.refl _ | assumption | apply Drawn0.step))⟩
    · obtain rfl:i=n:=by omega
      go_wp2_with fail
      go_ret
      exact ⟨by simp,(by repeat (first | exact Drawn0.refl _ | assumption | apply Drawn0.step))⟩
set_option maxRecDepth 100000 in
theorem of_err (v:Value) (L:List Lx.Tok) (w:World) (i:Int) (hT:Tks w v L) (hlen:L.length ≤ 100000) (hs:∀ t ∈ L,t.t.size ≤ 20000) (hL:Laid w)
    (E:Int) (hE:(Lx.groups (L.map Lx.kindOf)).2.1=E) (hne:(E != 0)=true) :
    Calls Tryz.prog 27 #[v,.int .i64 i] w fun e w'=>e=.returned (.tuple #[.slice none 0 0,.int .i64 E])∧Below w.heap.size w w':=by
  have HPL:=mkA (places_err v L w hT hlen hs hL.maxLen hL.blanks (by have:=hL.size;omega) E hE hne)
  clear hE hT hs hL
  go_enter Tryz.func27,Tryz.ntmps27
  go_wp2_with (first | (go_at_call 46;(refine HPL.out.mono ?_);rintro e w1 ⟨rfl,hb⟩;have HB:=mkA hb;clear hb))
  go_ret2
  exact ⟨rfl,HB.out⟩
set_option maxRecDepth 100000 in
theorem of_range (v:Value) (L:List Lx.Tok) (w:World) (i:Int) (hi:i < 0 ∨ (L.length:Int) ≤ i) (hT:Tks w v L) (hlen:L.length ≤ 100000) (hs:∀ t ∈ L,t.t.size ≤ 20000) (hW:Laid w)
    (hE:(Lx.groups (L.map Lx.kindOf)).2.1=0) (outs:List (List (Int × Int))) (hP:Lx.places (Lx.groups (L.map Lx.kindOf)).1 L.length=some outs) (hSm:Lx.Small (Lx.groups (L.map Lx.kindOf)).1) (hol:outs.length=L.length) :
    Calls Tryz.prog 27 #[v,.int .i64 i] w fun e w'=>e=.returned (.tuple #[.slice none 0 0,.int .i64 1])∧Below w.heap.size w w':=by
  have h5:=hW.size
  have HPL:=mkA (places_calls v L w hT hlen hs hW.maxLen hW.blanks (by omega) hE outs hP hSm)
  obtain ⟨n,hn⟩:∃ n,L.length=n:=⟨_,rfl⟩
  obtain ⟨A,c,rfl,hc1,hc2,hA⟩:=hT
  rw [hn] at hol HPL hlen hi ⊢
  have HOL:=mkA hol
  clear hs hW hE hP hSm hn hA hol
  by_cases h0:i < 0
  · have hi0:decide (i < 0)=true:=decide_eq_true h0
    go_enter Tryz.func27,Tryz.ntmps27
    go_wp2_with (first | (go_at_call 46;(refine HPL.out.mono ?_);rintro e w1 ⟨ov,gv,rfl,hgrp,hout,hb⟩;have HB:=mkA hb;clear hgrp hout hb))
    go_ret2
    exact ⟨rfl,HB.out⟩
  · have hi0:decide (i < 0)=false:=decide_eq_false h0
    have hi1:decide ((n:Int) ≤ i)=true:=decide_eq_true (by omega)
    go_enter Tryz.func27,Tryz.ntmps27
    go_wp2_with (first | (go_at_call 46;(refine HPL.out.mono ?_);rintro e w1 ⟨ov,gv,rfl,hgrp,hout,hb⟩;have HB:=mkA hb;clear hgrp hout hb))
    go_ret2
    exact ⟨rfl,HB.out⟩
end Go.Proofs.YtjnafjgonoficaaGreatDoor
namespace Go.Proofs.YtjnafjgonoficaaGreatDoor
open Go.RowKit
namespace Lx
theorem fm_at:∀ (A:List Tok),(∀ t ∈ A,∃ c,condOf t=some c) → (A.filterMap condOf).length=A.length∧∀ (b:Nat) (t:Tok),A[b]? = some t → (A.filterMap condOf)[b]? = condOf t
  | [],_=>⟨rfl,fun b t h=>by simp at h⟩
  | x :: A,h=>by
    obtain ⟨c,hc⟩:=h x (by simp)
    obtain ⟨h1,h2⟩:=fm_at A fun t ht=>h t (List.mem_cons_of_mem _ ht)
    rw [List.filterMap_cons,hc]
    refine ⟨by simp [h1],fun b t hb => ?_⟩
    cases b with
    | zero=>simp at hb;subst hb;rw [hc];rfl
    | succ b=>simpa using h2 b t (by simpa using hb)
theorem cl_at (L:List Tok) (g:G) (hS:Shut (L.map kindOf) g) (hin:∀ x ∈ g.lines,0 ≤ x∧x < (L.length:Int)) (m:Nat) (hm:g.lines.length=m + 1) :
    (∀ (b:Nat) (x:Int) (t:Tok),b < m → g.lines[b]? = some x → L[x.toNat]? = some t → (condsL L (g.lines.take m))[b]? = condOf t)∧∀ b,m ≤ b → (condsL L (g.lines.take m))[b]? = none:=by
  have hlen:(condsL L (g.lines.take m)).length ≤ m:=by
    have:=condsL_len L (g.lines.take m)
    rw [List.length_take] at this
    omega
  refine ⟨?_,fun b hb=>List.getElem?_eq_none (by omega)⟩
  intro b x t hb hx ht
  have hxt:(g.lines.take m)[b]? = some x:=by rw [List.getElem?_take,if_pos hb];exact hx
  have hin':∀ y ∈ g.lines.take m,0 ≤ y∧y < (L.length:Int):=fun y hy=>hin y (List.mem_of_mem_take hy)
  have htk:=toksOf_at L (g.lines.take m) hin' b x t hxt ht
  rw [condsL_toks]
  have hcond:∀ u:Tok,(isExpr (kindOf u)=true ∨ isDfn (kindOf u)=true) → ∃ c,condOf u=some c:=fun u hu=>by
    obtain ⟨c,hc,-⟩:=holds_same [] u hu
    exact ⟨c,hc⟩
  obtain ⟨y,c,z,h1,h2,h3,-,hl⟩:=hS
  have hAll:∀ u ∈ toksOf L (y :: c),∃ c,condOf u=some c:=by
    intro u hu
    obtain ⟨x',hx',hL'⟩:=toksOf_mem L _ u hu
    refine hcond u ?_
    have hk:=kAt_map L x' u hL'
    rcases List.mem_cons.1 hx' with rfl | hx'
    · rw [hk] at h1;exact opens_kind h1
    · have:=h2 x' hx'
      rw [hk] at this
      left
      unfold isExpr
      unfold sElif at this
      rw [this,Bool.or_true]
  obtain ⟨f1,f2⟩:=fm_at _ hAll
  rcases hl with hl | ⟨u,hu,hl⟩
  · have e:g.lines.take m=y :: c:=by
      have:m=(y :: c).length:=by rw [hl] at hm;simp at hm ⊢;omega
      rw [hl,this,List.take_left]
    rw [e] at htk ⊢
    exact f2 b t htk
  · have e:g.lines.take m=(y :: c) ++ [u]:=by
      have:m=((y :: c) ++ [u]).length:=by rw [hl] at hm;simp at hm ⊢;omega
      rw [hl,show y :: c ++ [u,z]=((y :: c) ++ [u]) ++ [z] by simp,this,List.take_left]
    rw [e] at htk hxt hin' ⊢
    have happ:toksOf L ((y :: c) ++ [u])=toksOf L (y :: c) ++ toksOf L [u]:=by unfold toksOf;rw [List.filterMap_append]
    have hl1:=toksOf_len L (y :: c) fun x hx=>hin' x (List.mem_append_left _ hx)
    rw [happ] at htk ⊢
    rw [List.filterMap_append]
    by_cases hbl:b < (toksOf L (y :: c)).length
    · rw [List.getElem?_append_left hbl] at htk
      rw [List.getElem?_append_left (by omega)]
      exact f2 b t htk
    · have hbe:b=(y :: c).length:=by
        have:=(List.getElem?_eq_some_iff.1 hxt).1
        simp at this hl1 hbl ⊢
        omega
      have hxu:x=u:=by
        rw [hbe,List.getElem?_append_right (Nat.le_refl _),Nat.sub_self] at hxt
        simpa using hxt.symm
      subst hxu
      have hk:=kAt_map L x t ht
      rw [hk] at hu
      have hcn:condOf t=none:=by
        unfold condOf isExpr isDfn
        unfold sElse at hu
        rw [beq_iff_eq.1 hu]
        rfl
      rw [hcn,List.getElem?_append_right (by omega)]
      have ht1:toksOf L [x]=[t]:=by unfold toksOf;simp [ht]
      rw [ht1]
      simp [hcn]
end Lx
end Go.Proofs.YtjnafjgonoficaaGreatDoor
namespace Go.Proofs.YtjnafjgonoficaaGreatDoor
open Go.RowKit Go.Proofs.YtjnafjgonoficaaGreatDoorW.PrintWords
theorem pairCells_snoc2 (a:List (Int × Int)) (p:Int × Int):pairCells (a ++ [p])=pairCells a ++ [.int .i64 p.1,.int .i64 p.2]:=by
  unfold pairCells
  rw [List.flatMap_append];rfl
set_option maxRecDepth 100000 in
set_option maxHeartbeats 8000000 in
theorem refdead_ok (v:Value) (L:List Lx.Tok) (w:World) (hT:Tks w v L) (hlen:L.length ≤ 30000) (hs:∀ t ∈ L,t.t.size ≤ 20000) (hE:(Lx.groups (L.map Lx.kindOf)).2.1=0) :
    Calls Tryz.prog 35 #[v] w fun e w' => ∃ rv,e=.returned (.tuple #[rv,.int .i64 0])∧w'.ownsRow w.heap.size 58 2 rv (Lx.deadL L).length (pairCells (Lx.deadL L))∧Below w.heap.size w w':=by
  have hgr:=refGroups_calls v L w hT (by omega) hs
  have hsm:Lx.Small (Lx.groups (L.map Lx.kindOf)).1:=Lx.groups_small 0 (L.map Lx.kindOf) (by rw [List.length_map];omega)
  have hin:=Lx.groups_in L
  have hsh:=(Lx.groups_form (L.map Lx.kindOf) hE).1
  rw [hE] at hgr
  unfold Lx.deadL
  obtain ⟨gs,hgs⟩:∃ gs,(Lx.groups (L.map Lx.kindOf)).1=gs:=⟨_,rfl⟩
  rw [hgs] at hgr hin hsm hsh ⊢
  obtain ⟨gn,hgn⟩:∃ gn,gs.length=gn:=⟨_,rfl⟩
  have hgl:=hsm.1
  rw [hgn] at hgl
  have HGN:=mkA hgn
  have HGR:=mkA hgr
  have HS:=mkA hs
  have HIN:=mkA hin
  have HSM:=mkA hsm
  have HSH:=mkA hsh
  obtain ⟨A,c,rfl,hc1,hc2,hA⟩:=hT
  obtain ⟨n,hn⟩:∃ n,L.length=n:=⟨_,rfl⟩
  have HN:=mkA hn
  have HA:=mkA hA
  unfold maxLen at hc2
  rw [hn] at HGR hc1 hlen ⊢
  clear hs hE hgr hgs hgn hn hin hsm hA hsh
  go_enter Tryz.func35,Tryz.ntmps35
  go_wp2_with (go_at_call 17;(refine HGR.out.mono ?_);rintro e w2 ⟨gv,rfl,hgrp,hb⟩;have HGRP:=mkA hgrp;have HB:=mkA hb;have hgv:∃ A c,gv=.slice A gn c:=(by obtain ⟨ls,e1,e2,e3⟩:=hgrp;exact own_slice (own_cast e2 HGN.out));obtain ⟨GA,GC,rfl⟩:=hgv;have hszz:=hb.size;clear hgrp hb)
  have HBW2:=HB
  obtain ⟨b2,hb2⟩:∃ b2,w2.heap.size=b2:=⟨_,rfl⟩
  have HB2:=mkA hb2
  have hsb:b2 ≤ w2.heap.size:=by omega
  have hwb2:w.heap.size ≤ b2:=by omega
  clear hb2 hszz
  go_loopg [7,8] gn (fun kq v7 v8 W => ∃ (i:Nat) (acc:List (Int × Int)),v8=.int .i64 i∧Aside0 (i ≤ gn∧kq=gn - i∧acc=Lx.deadGs L (gs.take i) 0∧acc.length ≤ i * 200000)∧Aside0 (W.ownsRow b2 58 2 v7 acc.length (pairCells acc))∧Aside0 (Below b2 w2 W)∧b2 ≤ W.heap.size)
  case atStart=>exact ⟨0,[],rfl,⟨by omega,rfl,rfl,by simp⟩,⟨own_nil _ _ _ _⟩,⟨Below.refl _ _⟩,hsb⟩
  case round =>
    obtain ⟨i,acc,rfl,HJ,HACC,HBK,hszk⟩:=hrel
    have hi:=HJ.out.1
    have hi0:(0:Int) ≤ (i:Int):=Int.natCast_nonneg _
    have hacl:=HJ.out.2.2.2
    by_cases hlt:i < gn
    · obtain ⟨g,hg⟩:∃ g,gs[i]? = some g:=⟨_,List.getElem?_eq_getElem (by have:=HGN.out;omega)⟩
      have hgm:=List.mem_of_getElem? hg
      obtain ⟨gb,c',gl,cl,hgv,a0,a1,a2,a3,hl0,hlc,hcm,hglb,hgbb,hat⟩:=HGRP.out.at i g hg
      simp only [Value.slice.injEq] at hgv
      obtain ⟨rfl,-,rfl⟩:=hgv
      have hgb2:gb < b2:=by have:=HB2.out;omega
      have hgl2:gl < b2:=by have:=HB2.out;omega
      have a0:=(HBK.out.cell (p:=⟨gb,_,none⟩) hgb2).trans a0
      have a1:=(HBK.out.cell (p:=⟨gb,_,none⟩) hgb2).trans a1
      have a2:=(HBK.out.cell (p:=⟨gb,_,none⟩) hgb2).trans a2
      have a3:=(HBK.out.cell (p:=⟨gb,_,none⟩) hgb2).trans a3
      have hgbw:gb < wr.heap.size:=by omega
      have hlsm:=(HSM.out.2 g hgm).1
      obtain ⟨m,hm⟩:∃ m,g.lines.length=m + 1:=⟨g.lines.length - 1,by omega⟩
      have hm5:m ≤ 100000:=by omega
      have hcl63:cl ≤ 9223372036854775807:=by unfold maxLen at hcm;omega
      have hmcl:m + 1 ≤ cl:=by omega
      obtain ⟨d,hd,hd5⟩:=Lx.shut_br (HSH.out g hgm) hlsm
      obtain ⟨CL,hCL⟩:∃ CL,Lx.condsL L (g.lines.take m)=CL:=⟨_,rfl⟩
      have hcl:=Lx.cl_at L g (HSH.out g hgm) (HIN.out g hgm) m hm
      rw [hCL] at hcl
      obtain ⟨nbr,hnbr⟩:∃ nbr,d + 1=nbr:=⟨_,rfl⟩
      have hdg:Lx.deadG L g i=Lx.deadF CL i nbr 0 false:=by
        unfold Lx.deadG
        rw [hm,Nat.add_sub_cancel,hCL,hd,← hnbr]
        rfl
      have hgx:Lx.deadGs L (gs.take (i + 1)) 0=acc ++ Lx.deadF CL i nbr 0 false:=by
        rw [take_snoc gs i g hg,Lx.deadGs_snoc,← HJ.out.2.2.1,List.length_take,Nat.zero_add,Nat.min_eq_left (by have:=HGN.out;omega),hdg]
      have hd':g.br=(nbr:Int):=by rw [hd,← hnbr];omega
      have hnb5:nbr ≤ 100001:=by omega
      have HGX:=mkA hgx
      have HCL:=mkA hcl
      have HLN:=mkA hm
      have HLI:=mkA (HIN.out g hgm)
      have HSG:=mkA (HSH.out g hgm)
      have HAT:=mkA hat
      have w1:IntKind.i64.wrap ((m:Int) + 1 - 1)=(m:Int):=by rw [show (m:Int) + 1 - 1=m by omega];exact IntWalk.i64_in _ (by omega)
      rw [hm] at a0
      rw [hd'] at a1
      have hwn:=blk_new wr (.cells #[.slice (some ⟨gl,0,none⟩) (m + 1) cl,.int .i64 nbr,.int .i64 g.par,.int .i64 g.bch] 42)
      have HWN:=mkA hwn
      have HFL:=mkA (Lx.deadF_len CL i nbr 0 false)
      clear hg hgm hat hgx hdg hm hd hd' hlsm hl0 hlc hcm hglb hgbb hCL hcl hnbr hd5 hwn
      go_wp2_with fail
      obtain ⟨wo,rfl⟩:∃ wo:World,wo=wr:=⟨_,rfl⟩
      go_loopg [7,10,11] nbr (fun kq v7 v10 v11 W => ∃ (b:Nat) (al:Bool) (acc2:List (Int × Int)),v10=.bool al∧v11=.int .i64 b∧Aside0 (b ≤ nbr∧kq=nbr - b∧acc2 ++ Lx.deadF CL i (nbr - b) b al=acc ++ Lx.deadF CL i nbr 0 false∧acc2.length ≤ i * 200000 + b)∧Aside0 (W.ownsRow b2 58 2 v7 acc2.length (pairCells acc2))∧Aside0 (Below b2 w2 W)∧Aside0 (W.heap[wo.heap.size]? = some (.cells #[.slice (some ⟨gl,0,none⟩) (m + 1) cl,.int .i64 nbr,.int .i64 g.par,.int .i64 g.bch] 42 (0,0)))∧b2 ≤ W.heap.size)
      case atStart=>exact ⟨0,false,acc,rfl,rfl,⟨by omega,(Nat.sub_zero _).symm,congrArg (fun q=>acc ++ Lx.deadF CL i q 0 false) (Nat.sub_zero nbr),Nat.le_trans hacl (Nat.le_add_right _ _)⟩,⟨own_kept_no HACC.out (World.grownBy_alloc wo _ none)⟩,⟨HBK.out.alloc hszk _⟩,HWN,by simp;omega⟩
      case round =>
        obtain ⟨b,al,acc2,rfl,rfl,HK,HO0,HBL,HQ,hsz⟩:=hrel
        have hbn:=HK.out.1
        have hb0:(0:Int) ≤ (b:Int):=Int.natCast_nonneg _
        obtain ⟨al2,hal2⟩:∃ al2,acc2.length=al2:=⟨_,rfl⟩
        have HAL2:=mkA hal2
        have HO:=mkA (own_cast HO0.out hal2)
        have hal5:al2 ≤ 100000000000:=by have:=HK.out.2.2.2;omega
        have q0:wr.cell? ⟨wo.heap.size,0,none⟩=some (.slice (some ⟨gl,0,none⟩) (m + 1) cl):=by rw [blk_cell HQ.out];rfl
        have q1:wr.cell? ⟨wo.heap.size,1,none⟩=some (.int .i64 nbr):=by rw [blk_cell HQ.out];rfl
        have hwor:=blk_lt HQ.out
        have hglr:gl < wr.heap.size:=by omega
        clear hal2
        by_cases hbl:b < nbr
        · have hun:acc2 ++ ((if (al || (Lx.fixAt CL b && !(Lx.truAt CL b)))=true then [((i:Int),(b:Int))] else []) ++ Lx.deadF CL i (nbr - (b + 1)) (b + 1) (al || (Lx.fixAt CL b && Lx.truAt CL b)))=acc ++ Lx.deadF CL i nbr 0 false:=by
            rw [← HK.out.2.2.1,show nbr - b=(nbr - (b + 1)) + 1 by omega];rfl
          by_cases hbm:b < m
          · obtain ⟨x,hx⟩:∃ x,g.lines[b]? = some x:=⟨_,List.getElem?_eq_getElem (by have:=HLN.out;omega)⟩
            have hxin:=HLI.out x (List.mem_of_getElem? hx)
            rw [HN.out] at hxin
            obtain ⟨k,rfl⟩:∃ k:Nat,x=(k:Int):=⟨x.toNat,by omega⟩
            have hkn:k < n:=by omega
            obtain ⟨t,ht⟩:∃ t,L[k]? = some t:=⟨_,List.getElem?_eq_getElem (by have:=HN.out;omega)⟩
            have hcb:=HCL.out.1 b (k:Int) t hbm hx (by rw [Int.toNat_natCast];exact ht)
            have hbc:Below w.heap.size w wr:=HBW2.out.trans (HBL.out.mono hwb2)
            obtain ⟨g1,o,rfl,hta,hgl1⟩:=HA.out.resolve_left (fun e=>by rw [e] at ht;simp at ht)
            obtain ⟨t0,t1,t2,t3⟩:=(hta.below hbc hgl1) k t ht
            have hg1r:g1 < wr.heap.size:=Nat.lt_of_lt_of_le hgl1 hbc.size
            have hts:=HS.out t (List.mem_of_getElem? ht)
            have l0:wr.cell? ⟨gl,b,none⟩=some (.int .i64 k):=by
              have h1:=HAT.out b _ hx
              rw [Nat.zero_add] at h1
              exact (HBL.out.cell (p:=⟨gl,_,none⟩) hgl2).trans h1
            have hkd:=Lx.shut_kinds L g HSG.out t (k:Int) m HLN.out (List.mem_of_getElem? (show (g.lines.take m)[b]? = some (k:Int) by rw [List.getElem?_take,if_pos hbm];exact hx)) (by rw [Int.toNat_natCast];exact ht)
            have hdm:decide ((b:Int) < (m:Int))=true:=decide_eq_true (by omega)
            have HKD:=mkA (fun W=>refKind_calls t W hts)
            have HAS:=mkA (fun W=>asked_calls t W hts)
            have HHL0:=mkA (fun (W:World) (h:Lx.isExpr (Lx.kindOf t)=true ∨ Lx.isDfn (Lx.kindOf t)=true)=>holds_calls t (.slice none 0 0) [] W hts ⟨none,0,rfl,Nat.le_refl _,Nat.zero_le _,by simp,(fun d hd=>by cases hd),.inl rfl⟩ h)
            unfold tokV at HKD HAS HHL0
            have hn:=Lx.cond_names t
            clear ht hta hgl1 hbc hxin hx hts
            cases hel:((Lx.kindOf t).toList == [101,108,115,101])
            · have hcd:=hkd.resolve_left (by rw [hel];exact Bool.false_ne_true)
              obtain ⟨cn,hcn,hval⟩:=Lx.holds_same [] t hcd
              have HHL:=mkA (fun (W:World)=>HHL0.out W hcd)
              rw [hcn] at hcb hn
              have hn:Lx.askR t=cn.names:=hn
              have hfx:Lx.fixAt CL b=cn.names.isEmpty:=by unfold Lx.fixAt;rw [hcb]
              have htr:Lx.truAt CL b=Lx.holdsT [] t:=by unfold Lx.truAt;rw [hcb];exact hval
              obtain ⟨nn,hnn⟩:∃ nn,(Lx.askR t).length=nn:=⟨_,rfl⟩
              obtain ⟨K,hK⟩:∃ K,Lx.kindOf t=K:=⟨_,rfl⟩
              obtain ⟨hv,hhv⟩:∃ hv,Lx.holdsT [] t=hv:=⟨_,rfl⟩
              have HNN:=mkA hnn
              rw [hK] at HKD hel
              rw [hnn] at HAS
              rw [hhv] at HHL htr
              rw [hfx,htr,← hn] at hun
              clear hkd hcd hcn hval hn hfx htr hK hhv hcb HHL0
              cases nn with
              | zero =>
                have he:(Lx.askR t).isEmpty=true:=by rw [List.isEmpty_iff];exact List.eq_nil_of_length_eq_zero hnn
                rw [he] at hun
                simp only [Bool.true_and] at hun
                clear he hnn
                cases hv
                · simp only [Bool.not_false,Bool.or_true,Bool.or_false] at hun
                  have HUN:=mkA hun
                  clear hun
                  cases al
                  · go_wp2_with (first | (go_at_call 14;(refine (HKD.out _).mono ?_);rintro e w5 ⟨rfl,hb5⟩;have q0:=(hb5.cell (p:=⟨wo.heap.size,0,none⟩) hwor).trans q0;have q1:=(hb5.cell (p:=⟨wo.heap.size,1,none⟩) hwor).trans q1;have l0:=(hb5.cell (p:=⟨gl,_,none⟩) hglr).trans l0;have t0:=(hb5.cell (p:=⟨g1,_,none⟩) hg1r).trans t0;have t1:=(hb5.cell (p:=⟨g1,_,none⟩) hg1r).trans t1;have t2:=(hb5.cell (p:=⟨g1,_,none⟩) hg1r).trans t2;have t3:=(hb5.cell (p:=⟨g1,_,none⟩) hg1r).trans t3;have hwor:=Nat.lt_of_lt_of_le hwor hb5.size;have hglr:=Nat.lt_of_lt_of_le hglr hb5.size;have hg1r:=Nat.lt_of_lt_of_le hg1r hb5.size;have HO:=mkA (own_kept_no HO.out (grown_below (World.grownBy.refl _ none) hb5));have HBL:=mkA (HBL.out.trans (hb5.mono hsz));have hsz:=Nat.le_trans hsz hb5.size;have HQ:=mkA ((hb5.block _ (blk_lt HQ.out)).trans HQ.out);clear hb5) | (go_at_call 59;(refine (HAS.out _).mono ?_);rintro e w6 ⟨av,rfl,hoa,hb6⟩;(obtain ⟨AA,AC,rfl⟩:=own_slice hoa);have q0:=(hb6.cell (p:=⟨wo.heap.size,0,none⟩) hwor).trans q0;have q1:=(hb6.cell (p:=⟨wo.heap.size,1,none⟩) hwor).trans q1;have l0:=(hb6.cell (p:=⟨gl,_,none⟩) hglr).trans l0;have t0:=(hb6.cell (p:=⟨g1,_,none⟩) hg1r).trans t0;have t1:=(hb6.cell (p:=⟨g1,_,none⟩) hg1r).trans t1;have t2:=(hb6.cell (p:=⟨g1,_,none⟩) hg1r).trans t2;have t3:=(hb6.cell (p:=⟨g1,_,none⟩) hg1r).trans t3;have hwor:=Nat.lt_of_lt_of_le hwor hb6.size;have hglr:=Nat.lt_of_lt_of_le hglr hb6.size;have hg1r:=Nat.lt_of_lt_of_le hg1r hb6.size;have HO:=mkA (own_kept_no HO.out (grown_below (World.grownBy.refl _ none) hb6));have HBL:=mkA (HBL.out.trans (hb6.mono hsz));have hsz:=Nat.le_trans hsz hb6.size;have HQ:=mkA ((hb6.block _ (blk_lt HQ.out)).trans HQ.out);clear hb6;clear hoa) | (go_at_call 56;(refine (HHL.out _).mono ?_);rintro e w7 ⟨rfl,hb7⟩;have q0:=(hb7.cell (p:=⟨wo.heap.size,0,none⟩) hwor).trans q0;have q1:=(hb7.cell (p:=⟨wo.heap.size,1,none⟩) hwor).trans q1;have l0:=(hb7.cell (p:=⟨gl,_,none⟩) hglr).trans l0;have t0:=(hb7.cell (p:=⟨g1,_,none⟩) hg1r).trans t0;have t1:=(hb7.cell (p:=⟨g1,_,none⟩) hg1r).trans t1;have t2:=(hb7.cell (p:=⟨g1,_,none⟩) hg1r).trans t2;have t3:=(hb7.cell (p:=⟨g1,_,none⟩) hg1r).trans t3;have hwor:=Nat.lt_of_lt_of_le hwor hb7.size;have hglr:=Nat.lt_of_lt_of_le hglr hb7.size;have hg1r:=Nat.lt_of_lt_of_le hg1r hb7.size;have HO:=mkA (own_kept_no HO.out (grown_below (World.grownBy.refl _ none) hb7));have HBL:=mkA (HBL.out.trans (hb7.mono hsz));have hsz:=Nat.le_trans hsz hb7.size;have HQ:=mkA ((hb7.block _ (blk_lt HQ.out)).trans HQ.out);clear hb7) | (at_builtin;refine print_append_cells (w0:=w2) (W:=w7) b2 rfl (.tmp 90) (.tmp 94) 55 58 (.agg #[.int .i64 0,.int .i64 0]) 2 16 rfl Tryz.underlying55 info58 rfl (by decide) (by decide) u7 al2 (pairCells acc2) [.int .i64 i,.int .i64 b] (by rfl) (by simp [Act.eval]) rfl (by simp [Value.oneCell']) HO.out HBL.out hsz (by omega) ?_;intro v8 w8 hv8 hb8 hg8 hat8;have HV8:=mkA hv8;have HB8:=mkA hb8;have HQ8:=mkA ((hg8.block _ (blk_lt HQ.out) (fun e=>own58_neT HO.out HQ.out (by decide) e.symm)).trans HQ.out);have hsz8:=hg8.size;clear hv8 hb8 hg8 hat8))
                    go_roundg (nbr - (b + 1))
                    case measure=>have:=HK.out;omega
                    case rel =>
                      refine ⟨b + 1,false,acc2 ++ [((i:Int),(b:Int))],by first | rfl | go_num,by go_num,⟨by omega,rfl,(by rw [← HUN.out,List.append_assoc];rfl),by rw [List.length_append,List.length_singleton];have:=HK.out.2.2.2;omega⟩,⟨?_⟩,HB8,HQ8,by omega⟩
                      rw [pairCells_snoc2,List.length_append,List.length_singleton,HAL2.out]
                      exact HV8.out
                  · go_wp2_with (first | (go_at_call 14;(refine (HKD.out _).mono ?_);rintro e w5 ⟨rfl,hb5⟩;have q0:=(hb5.cell (p:=⟨wo.heap.size,0,none⟩) hwor).trans q0;have q1:=(hb5.cell (p:=⟨wo.heap.size,1,none⟩) hwor).trans q1;have l0:=(hb5.cell (p:=⟨gl,_,none⟩) hglr).trans l0;have t0:=(hb5.cell (p:=⟨g1,_,none⟩) hg1r).trans t0;have t1:=(hb5.cell (p:=⟨g1,_,none⟩) hg1r).trans t1;have t2:=(hb5.cell (p:=⟨g1,_,none⟩) hg1r).trans t2;have t3:=(hb5.cell (p:=⟨g1,_,none⟩) hg1r).trans t3;have hwor:=Nat.lt_of_lt_of_le hwor hb5.size;have hglr:=Nat.lt_of_lt_of_le hglr hb5.size;have hg1r:=Nat.lt_of_lt_of_le hg1r hb5.size;have HO:=mkA (own_kept_no HO.out (grown_below (World.grownBy.refl _ none) hb5));have HBL:=mkA (HBL.out.trans (hb5.mono hsz));have hsz:=Nat.le_trans hsz hb5.size;have HQ:=mkA ((hb5.block _ (blk_lt HQ.out)).trans HQ.out);clear hb5) | (go_at_call 59;(refine (HAS.out _).mono ?_);rintro e w6 ⟨av,rfl,hoa,hb6⟩;(obtain ⟨AA,AC,rfl⟩:=own_slice hoa);have q0:=(hb6.cell (p:=⟨wo.heap.size,0,none⟩) hwor).trans q0;have q1:=(hb6.cell (p:=⟨wo.heap.size,1,none⟩) hwor).trans q1;have l0:=(hb6.cell (p:=⟨gl,_,none⟩) hglr).trans l0;have t0:=(hb6.cell (p:=⟨g1,_,none⟩) hg1r).trans t0;have t1:=(hb6.cell (p:=⟨g1,_,none⟩) hg1r).trans t1;have t2:=(hb6.cell (p:=⟨g1,_,none⟩) hg1r).trans t2;have t3:=(hb6.cell (p:=⟨g1,_,none⟩) hg1r).trans t3;have hwor:=Nat.lt_of_lt_of_le hwor hb6.size;have hglr:=Nat.lt_of_lt_of_le hglr hb6.size;have hg1r:=Nat.lt_of_lt_of_le hg1r hb6.size;have HO:=mkA (own_kept_no HO.out (grown_below (World.grownBy.refl _ none) hb6));have HBL:=mkA (HBL.out.trans (hb6.mono hsz));have hsz:=Nat.le_trans hsz hb6.size;have HQ:=mkA ((hb6.block _ (blk_lt HQ.out)).trans HQ.out);clear hb6;clear hoa) | (go_at_call 56;(refine (HHL.out _).mono ?_);rintro e w7 ⟨rfl,hb7⟩;have q0:=(hb7.cell (p:=⟨wo.heap.size,0,none⟩) hwor).trans q0;have q1:=(hb7.cell (p:=⟨wo.heap.size,1,none⟩) hwor).trans q1;have l0:=(hb7.cell (p:=⟨gl,_,none⟩) hglr).trans l0;have t0:=(hb7.cell (p:=⟨g1,_,none⟩) hg1r).trans t0;have t1:=(hb7.cell (p:=⟨g1,_,none⟩) hg1r).trans t1;have t2:=(hb7.cell (p:=⟨g1,_,none⟩) hg1r).trans t2;have t3:=(hb7.cell (p:=⟨g1,_,none⟩) hg1r).trans t3;have hwor:=Nat.lt_of_lt_of_le hwor hb7.size;have hglr:=Nat.lt_of_lt_of_le hglr hb7.size;have hg1r:=Nat.lt_of_lt_of_le hg1r hb7.size;have HO:=mkA (own_kept_no HO.out (grown_below (World.grownBy.refl _ none) hb7));have HBL:=mkA (HBL.out.trans (hb7.mono hsz));have hsz:=Nat.le_trans hsz hb7.size;have HQ:=mkA ((hb7.block _ (blk_lt HQ.out)).trans HQ.out);clear hb7) | (at_builtin;refine print_append_cells (w0:=w2) (W:=w7) b2 rfl (.tmp 90) (.tmp 94) 55 58 (.agg #[.int .i64 0,.int .i64 0]) 2 16 rfl Tryz.underlying55 info58 rfl (by decide) (by decide) u7 al2 (pairCells acc2) [.int .i64 i,.int .i64 b] (by rfl) (by simp [Act.eval]) rfl (by simp [Value.oneCell']) HO.out HBL.out hsz (by omega) ?_;intro v8 w8 hv8 hb8 hg8 hat8;have HV8:=mkA hv8;have HB8:=mkA hb8;have HQ8:=mkA ((hg8.block _ (blk_lt HQ.out) (fun e=>own58_neT HO.out HQ.out (by decide) e.symm)).trans HQ.out);have hsz8:=hg8.size;clear hv8 hb8 hg8 hat8))
                    go_roundg (nbr - (b + 1))
                    case measure=>have:=HK.out;omega
                    case rel =>
                      refine ⟨b + 1,true,acc2 ++ [((i:Int),(b:Int))],by first | rfl | go_num,by go_num,⟨by omega,rfl,(by rw [← HUN.out,List.append_assoc];rfl),by rw [List.length_append,List.length_singleton];have:=HK.out.2.2.2;omega⟩,⟨?_⟩,HB8,HQ8,by omega⟩
                      rw [pairCells_snoc2,List.length_append,List.length_singleton,HAL2.out]
                      exact HV8.out
                · simp only [Bool.not_true,Bool.or_true,Bool.or_false] at hun
                  have HUN:=mkA hun
                  clear hun
                  cases al
                  · go_wp2_with (first | (go_at_call 14;(refine (HKD.out _).mono ?_);rintro e w5 ⟨rfl,hb5⟩;have q0:=(hb5.cell (p:=⟨wo.heap.size,0,none⟩) hwor).trans q0;have q1:=(hb5.cell (p:=⟨wo.heap.size,1,none⟩) hwor).trans q1;have l0:=(hb5.cell (p:=⟨gl,_,none⟩) hglr).trans l0;have t0:=(hb5.cell (p:=⟨g1,_,none⟩) hg1r).trans t0;have t1:=(hb5.cell (p:=⟨g1,_,none⟩) hg1r).trans t1;have t2:=(hb5.cell (p:=⟨g1,_,none⟩) hg1r).trans t2;have t3:=(hb5.cell (p:=⟨g1,_,none⟩) hg1r).trans t3;have hwor:=Nat.lt_of_lt_of_le hwor hb5.size;have hglr:=Nat.lt_of_lt_of_le hglr hb5.size;have hg1r:=Nat.lt_of_lt_of_le hg1r hb5.size;have HO:=mkA (own_kept_no HO.out (grown_below (World.grownBy.refl _ none) hb5));have HBL:=mkA (HBL.out.trans (hb5.mono hsz));have hsz:=Nat.le_trans hsz hb5.size;have HQ:=mkA ((hb5.block _ (blk_lt HQ.out)).trans HQ.out);clear hb5) | (go_at_call 59;(refine (HAS.out _).mono ?_);rintro e w6 ⟨av,rfl,hoa,hb6⟩;(obtain ⟨AA,AC,rfl⟩:=own_slice hoa);have q0:=(hb6.cell (p:=⟨wo.heap.size,0,none⟩) hwor).trans q0;have q1:=(hb6.cell (p:=⟨wo.heap.size,1,none⟩) hwor).trans q1;have l0:=(hb6.cell (p:=⟨gl,_,none⟩) hglr).trans l0;have t0:=(hb6.cell (p:=⟨g1,_,none⟩) hg1r).trans t0;have t1:=(hb6.cell (p:=⟨g1,_,none⟩) hg1r).trans t1;have t2:=(hb6.cell (p:=⟨g1,_,none⟩) hg1r).trans t2;have t3:=(hb6.cell (p:=⟨g1,_,none⟩) hg1r).trans t3;have hwor:=Nat.lt_of_lt_of_le hwor hb6.size;have hglr:=Nat.lt_of_lt_of_le hglr hb6.size;have hg1r:=Nat.lt_of_lt_of_le hg1r hb6.size;have HO:=mkA (own_kept_no HO.out (grown_below (World.grownBy.refl _ none) hb6));have HBL:=mkA (HBL.out.trans (hb6.mono hsz));have hsz:=Nat.le_trans hsz hb6.size;have HQ:=mkA ((hb6.block _ (blk_lt HQ.out)).trans HQ.out);clear hb6;clear hoa) | (go_at_call 56;(refine (HHL.out _).mono ?_);rintro e w7 ⟨rfl,hb7⟩;have q0:=(hb7.cell (p:=⟨wo.heap.size,0,none⟩) hwor).trans q0;have q1:=(hb7.cell (p:=⟨wo.heap.size,1,none⟩) hwor).trans q1;have l0:=(hb7.cell (p:=⟨gl,_,none⟩) hglr).trans l0;have t0:=(hb7.cell (p:=⟨g1,_,none⟩) hg1r).trans t0;have t1:=(hb7.cell (p:=⟨g1,_,none⟩) hg1r).trans t1;have t2:=(hb7.cell (p:=⟨g1,_,none⟩) hg1r).trans t2;have t3:=(hb7.cell (p:=⟨g1,_,none⟩) hg1r).trans t3;have hwor:=Nat.lt_of_lt_of_le hwor hb7.size;have hglr:=Nat.lt_of_lt_of_le hglr hb7.size;have hg1r:=Nat.lt_of_lt_of_le hg1r hb7.size;have HO:=mkA (own_kept_no HO.out (grown_below (World.grownBy.refl _ none) hb7));have HBL:=mkA (HBL.out.trans (hb7.mono hsz));have hsz:=Nat.le_trans hsz hb7.size;have HQ:=mkA ((hb7.block _ (blk_lt HQ.out)).trans HQ.out);clear hb7))
                    go_roundg (nbr - (b + 1))
                    case measure=>have:=HK.out;omega
                    case rel=>exact ⟨b + 1,true,acc2,by first | rfl | go_num,by go_num,⟨by omega,rfl,(by rw [← HUN.out];rfl),by have:=HK.out.2.2.2;omega⟩,⟨by rw [HAL2.out];exact HO.out⟩,HBL,HQ,by omega⟩
                  · go_wp2_with (first | (go_at_call 14;(refine (HKD.out _).mono ?_);rintro e w5 ⟨rfl,hb5⟩;have q0:=(hb5.cell (p:=⟨wo.heap.size,0,none⟩) hwor).trans q0;have q1:=(hb5.cell (p:=⟨wo.heap.size,1,none⟩) hwor).trans q1;have l0:=(hb5.cell (p:=⟨gl,_,none⟩) hglr).trans l0;have t0:=(hb5.cell (p:=⟨g1,_,none⟩) hg1r).trans t0;have t1:=(hb5.cell (p:=⟨g1,_,none⟩) hg1r).trans t1;have t2:=(hb5.cell (p:=⟨g1,_,none⟩) hg1r).trans t2;have t3:=(hb5.cell (p:=⟨g1,_,none⟩) hg1r).trans t3;have hwor:=Nat.lt_of_lt_of_le hwor hb5.size;have hglr:=Nat.lt_of_lt_of_le hglr hb5.size;have hg1r:=Nat.lt_of_lt_of_le hg1r hb5.size;have HO:=mkA (own_kept_no HO.out (grown_below (World.grownBy.refl _ none) hb5));have HBL:=mkA (HBL.out.trans (hb5.mono hsz));have hsz:=Nat.le_trans hsz hb5.size;have HQ:=mkA ((hb5.block _ (blk_lt HQ.out)).trans HQ.out);clear hb5) | (go_at_call 59;(refine (HAS.out _).mono ?_);rintro e w6 ⟨av,rfl,hoa,hb6⟩;(obtain ⟨AA,AC,rfl⟩:=own_slice hoa);have q0:=(hb6.cell (p:=⟨wo.heap.size,0,none⟩) hwor).trans q0;have q1:=(hb6.cell (p:=⟨wo.heap.size,1,none⟩) hwor).trans q1;have l0:=(hb6.cell (p:=⟨gl,_,none⟩) hglr).trans l0;have t0:=(hb6.cell (p:=⟨g1,_,none⟩) hg1r).trans t0;have t1:=(hb6.cell (p:=⟨g1,_,none⟩) hg1r).trans t1;have t2:=(hb6.cell (p:=⟨g1,_,none⟩) hg1r).trans t2;have t3:=(hb6.cell (p:=⟨g1,_,none⟩) hg1r).trans t3;have hwor:=Nat.lt_of_lt_of_le hwor hb6.size;have hglr:=Nat.lt_of_lt_of_le hglr hb6.size;have hg1r:=Nat.lt_of_lt_of_le hg1r hb6.size;have HO:=mkA (own_kept_no HO.out (grown_below (World.grownBy.refl _ none) hb6));have HBL:=mkA (HBL.out.trans (hb6.mono hsz));have hsz:=Nat.le_trans hsz hb6.size;have HQ:=mkA ((hb6.block _ (blk_lt HQ.out)).trans HQ.out);clear hb6;clear hoa) | (go_at_call 56;(refine (HHL.out _).mono ?_);rintro e w7 ⟨rfl,hb7⟩;have q0:=(hb7.cell (p:=⟨wo.heap.size,0,none⟩) hwor).trans q0;have q1:=(hb7.cell (p:=⟨wo.heap.size,1,none⟩) hwor).trans q1;have l0:=(hb7.cell (p:=⟨gl,_,none⟩) hglr).trans l0;have t0:=(hb7.cell (p:=⟨g1,_,none⟩) hg1r).trans t0;have t1:=(hb7.cell (p:=⟨g1,_,none⟩) hg1r).trans t1;have t2:=(hb7.cell (p:=⟨g1,_,none⟩) hg1r).trans t2;have t3:=(hb7.cell (p:=⟨g1,_,none⟩) hg1r).trans t3;have hwor:=Nat.lt_of_lt_of_le hwor hb7.size;have hglr:=Nat.lt_of_lt_of_le hglr hb7.size;have hg1r:=Nat.lt_of_lt_of_le hg1r hb7.size;have HO:=mkA (own_kept_no HO.out (grown_below (World.grownBy.refl _ none) hb7));have HBL:=mkA (HBL.out.trans (hb7.mono hsz));have hsz:=Nat.le_trans hsz hb7.size;have HQ:=mkA ((hb7.block _ (blk_lt HQ.out)).trans HQ.out);clear hb7) | (at_builtin;refine print_append_cells (w0:=w2) (W:=w7) b2 rfl (.tmp 90) (.tmp 94) 55 58 (.agg #[.int .i64 0,.int .i64 0]) 2 16 rfl Tryz.underlying55 info58 rfl (by decide) (by decide) u7 al2 (pairCells acc2) [.int .i64 i,.int .i64 b] (by rfl) (by simp [Act.eval]) rfl (by simp [Value.oneCell']) HO.out HBL.out hsz (by omega) ?_;intro v8 w8 hv8 hb8 hg8 hat8;have HV8:=mkA hv8;have HB8:=mkA hb8;have HQ8:=mkA ((hg8.block _ (blk_lt HQ.out) (fun e=>own58_neT HO.out HQ.out (by decide) e.symm)).trans HQ.out);have hsz8:=hg8.size;clear hv8 hb8 hg8 hat8))
                    go_roundg (nbr - (b + 1))
                    case measure=>have:=HK.out;omega
                    case rel =>
                      refine ⟨b + 1,true,acc2 ++ [((i:Int),(b:Int))],by first | rfl | go_num,by go_num,⟨by omega,rfl,(by rw [← HUN.out,List.append_assoc];rfl),by rw [List.length_append,List.length_singleton];have:=HK.out.2.2.2;omega⟩,⟨?_⟩,HB8,HQ8,by omega⟩
                      rw [pairCells_snoc2,List.length_append,List.length_singleton,HAL2.out]
                      exact HV8.out
              | succ nn =>
                have he:(Lx.askR t).isEmpty=false:=by cases h:Lx.askR t with | nil=>rw [h] at hnn;cases hnn | cons a r=>rfl
                rw [he] at hun
                simp only [Bool.false_and,Bool.or_false] at hun
                have HUN:=mkA hun
                clear hun he hnn
                cases al
                · go_wp2_with (first | (go_at_call 14;(refine (HKD.out _).mono ?_);rintro e w5 ⟨rfl,hb5⟩;have q0:=(hb5.cell (p:=⟨wo.heap.size,0,none⟩) hwor).trans q0;have q1:=(hb5.cell (p:=⟨wo.heap.size,1,none⟩) hwor).trans q1;have l0:=(hb5.cell (p:=⟨gl,_,none⟩) hglr).trans l0;have t0:=(hb5.cell (p:=⟨g1,_,none⟩) hg1r).trans t0;have t1:=(hb5.cell (p:=⟨g1,_,none⟩) hg1r).trans t1;have t2:=(hb5.cell (p:=⟨g1,_,none⟩) hg1r).trans t2;have t3:=(hb5.cell (p:=⟨g1,_,none⟩) hg1r).trans t3;have hwor:=Nat.lt_of_lt_of_le hwor hb5.size;have hglr:=Nat.lt_of_lt_of_le hglr hb5.size;have hg1r:=Nat.lt_of_lt_of_le hg1r hb5.size;have HO:=mkA (own_kept_no HO.out (grown_below (World.grownBy.refl _ none) hb5));have HBL:=mkA (HBL.out.trans (hb5.mono hsz));have hsz:=Nat.le_trans hsz hb5.size;have HQ:=mkA ((hb5.block _ (blk_lt HQ.out)).trans HQ.out);clear hb5) | (go_at_call 59;(refine (HAS.out _).mono ?_);rintro e w6 ⟨av,rfl,hoa,hb6⟩;(obtain ⟨AA,AC,rfl⟩:=own_slice hoa);have q0:=(hb6.cell (p:=⟨wo.heap.size,0,none⟩) hwor).trans q0;have q1:=(hb6.cell (p:=⟨wo.heap.size,1,none⟩) hwor).trans q1;have l0:=(hb6.cell (p:=⟨gl,_,none⟩) hglr).trans l0;have t0:=(hb6.cell (p:=⟨g1,_,none⟩) hg1r).trans t0;have t1:=(hb6.cell (p:=⟨g1,_,none⟩) hg1r).trans t1;have t2:=(hb6.cell (p:=⟨g1,_,none⟩) hg1r).trans t2;have t3:=(hb6.cell (p:=⟨g1,_,none⟩) hg1r).trans t3;have hwor:=Nat.lt_of_lt_of_le hwor hb6.size;have hglr:=Nat.lt_of_lt_of_le hglr hb6.size;have hg1r:=Nat.lt_of_lt_of_le hg1r hb6.size;have HO:=mkA (own_kept_no HO.out (grown_below (World.grownBy.refl _ none) hb6));have HBL:=mkA (HBL.out.trans (hb6.mono hsz));have hsz:=Nat.le_trans hsz hb6.size;have HQ:=mkA ((hb6.block _ (blk_lt HQ.out)).trans HQ.out);clear hb6;clear hoa))
                  go_roundg (nbr - (b + 1))
                  case measure=>have:=HK.out;omega
                  case rel=>exact ⟨b + 1,false,acc2,by first | rfl | go_num,by go_num,⟨by omega,rfl,(by rw [← HUN.out];rfl),by have:=HK.out.2.2.2;omega⟩,⟨by rw [HAL2.out];exact HO.out⟩,HBL,HQ,by omega⟩
                · go_wp2_with (first | (go_at_call 14;(refine (HKD.out _).mono ?_);rintro e w5 ⟨rfl,hb5⟩;have q0:=(hb5.cell (p:=⟨wo.heap.size,0,none⟩) hwor).trans q0;have q1:=(hb5.cell (p:=⟨wo.heap.size,1,none⟩) hwor).trans q1;have l0:=(hb5.cell (p:=⟨gl,_,none⟩) hglr).trans l0;have t0:=(hb5.cell (p:=⟨g1,_,none⟩) hg1r).trans t0;have t1:=(hb5.cell (p:=⟨g1,_,none⟩) hg1r).trans t1;have t2:=(hb5.cell (p:=⟨g1,_,none⟩) hg1r).trans t2;have t3:=(hb5.cell (p:=⟨g1,_,none⟩) hg1r).trans t3;have hwor:=Nat.lt_of_lt_of_le hwor hb5.size;have hglr:=Nat.lt_of_lt_of_le hglr hb5.size;have hg1r:=Nat.lt_of_lt_of_le hg1r hb5.size;have HO:=mkA (own_kept_no HO.out (grown_below (World.grownBy.refl _ none) hb5));have HBL:=mkA (HBL.out.trans (hb5.mono hsz));have hsz:=Nat.le_trans hsz hb5.size;have HQ:=mkA ((hb5.block _ (blk_lt HQ.out)).trans HQ.out);clear hb5) | (go_at_call 59;(refine (HAS.out _).mono ?_);rintro e w6 ⟨av,rfl,hoa,hb6⟩;(obtain ⟨AA,AC,rfl⟩:=own_slice hoa);have q0:=(hb6.cell (p:=⟨wo.heap.size,0,none⟩) hwor).trans q0;have q1:=(hb6.cell (p:=⟨wo.heap.size,1,none⟩) hwor).trans q1;have l0:=(hb6.cell (p:=⟨gl,_,none⟩) hglr).trans l0;have t0:=(hb6.cell (p:=⟨g1,_,none⟩) hg1r).trans t0;have t1:=(hb6.cell (p:=⟨g1,_,none⟩) hg1r).trans t1;have t2:=(hb6.cell (p:=⟨g1,_,none⟩) hg1r).trans t2;have t3:=(hb6.cell (p:=⟨g1,_,none⟩) hg1r).trans t3;have hwor:=Nat.lt_of_lt_of_le hwor hb6.size;have hglr:=Nat.lt_of_lt_of_le hglr hb6.size;have hg1r:=Nat.lt_of_lt_of_le hg1r hb6.size;have HO:=mkA (own_kept_no HO.out (grown_below (World.grownBy.refl _ none) hb6));have HBL:=mkA (HBL.out.trans (hb6.mono hsz));have hsz:=Nat.le_trans hsz hb6.size;have HQ:=mkA ((hb6.block _ (blk_lt HQ.out)).trans HQ.out);clear hb6;clear hoa) | (at_builtin;refine print_append_cells (w0:=w2) (W:=w6) b2 rfl (.tmp 90) (.tmp 94) 55 58 (.agg #[.int .i64 0,.int .i64 0]) 2 16 rfl Tryz.underlying55 info58 rfl (by decide) (by decide) u7 al2 (pairCells acc2) [.int .i64 i,.int .i64 b] (by rfl) (by simp [Act.eval]) rfl (by simp [Value.oneCell']) HO.out HBL.out hsz (by omega) ?_;intro v8 w8 hv8 hb8 hg8 hat8;have HV8:=mkA hv8;have HB8:=mkA hb8;have HQ8:=mkA ((hg8.block _ (blk_lt HQ.out) (fun e=>own58_neT HO.out HQ.out (by decide) e.symm)).trans HQ.out);have hsz8:=hg8.size;clear hv8 hb8 hg8 hat8))
                  go_roundg (nbr - (b + 1))
                  case measure=>have:=HK.out;omega
                  case rel =>
                    refine ⟨b + 1,true,acc2 ++ [((i:Int),(b:Int))],by first | rfl | go_num,by go_num,⟨by omega,rfl,(by rw [← HUN.out,List.append_assoc];rfl),by rw [List.length_append,List.length_singleton];have:=HK.out.2.2.2;omega⟩,⟨?_⟩,HB8,HQ8,by omega⟩
                    rw [pairCells_snoc2,List.length_append,List.length_singleton,HAL2.out]
                    exact HV8.out
            · have hcn:Lx.condOf t=none:=by
                unfold Lx.condOf Lx.isExpr Lx.isDfn
                rw [beq_iff_eq.1 hel];rfl
              have hfx:Lx.fixAt CL b=false:=by unfold Lx.fixAt;rw [hcb,hcn]
              rw [hfx] at hun
              simp only [Bool.false_and,Bool.or_false] at hun
              obtain ⟨K,hK⟩:∃ K,Lx.kindOf t=K:=⟨_,rfl⟩
              rw [hK] at HKD hel
              have HUN:=mkA hun
              clear hun hfx hcn hn hkd hcb hK HHL0 HAS
              cases al
              · go_wp2_with (first | (go_at_call 14;(refine (HKD.out _).mono ?_);rintro e w5 ⟨rfl,hb5⟩;have q0:=(hb5.cell (p:=⟨wo.heap.size,0,none⟩) hwor).trans q0;have q1:=(hb5.cell (p:=⟨wo.heap.size,1,none⟩) hwor).trans q1;have l0:=(hb5.cell (p:=⟨gl,_,none⟩) hglr).trans l0;have t0:=(hb5.cell (p:=⟨g1,_,none⟩) hg1r).trans t0;have t1:=(hb5.cell (p:=⟨g1,_,none⟩) hg1r).trans t1;have t2:=(hb5.cell (p:=⟨g1,_,none⟩) hg1r).trans t2;have t3:=(hb5.cell (p:=⟨g1,_,none⟩) hg1r).trans t3;have hwor:=Nat.lt_of_lt_of_le hwor hb5.size;have hglr:=Nat.lt_of_lt_of_le hglr hb5.size;have hg1r:=Nat.lt_of_lt_of_le hg1r hb5.size;have HO:=mkA (own_kept_no HO.out (grown_below (World.grownBy.refl _ none) hb5));have HBL:=mkA (HBL.out.trans (hb5.mono hsz));have hsz:=Nat.le_trans hsz hb5.size;have HQ:=mkA ((hb5.block _ (blk_lt HQ.out)).trans HQ.out);clear hb5))
                go_roundg (nbr - (b + 1))
                case measure=>have:=HK.out;omega
                case rel=>exact ⟨b + 1,false,acc2,by first | rfl | go_num,by go_num,⟨by omega,rfl,(by rw [← HUN.out];rfl),by have:=HK.out.2.2.2;omega⟩,⟨by rw [HAL2.out];exact HO.out⟩,HBL,HQ,by omega⟩
              · go_wp2_with (first | (go_at_call 14;(refine (HKD.out _).mono ?_);rintro e w5 ⟨rfl,hb5⟩;have q0:=(hb5.cell (p:=⟨wo.heap.size,0,none⟩) hwor).trans q0;have q1:=(hb5.cell (p:=⟨wo.heap.size,1,none⟩) hwor).trans q1;have l0:=(hb5.cell (p:=⟨gl,_,none⟩) hglr).trans l0;have t0:=(hb5.cell (p:=⟨g1,_,none⟩) hg1r).trans t0;have t1:=(hb5.cell (p:=⟨g1,_,none⟩) hg1r).trans t1;have t2:=(hb5.cell (p:=⟨g1,_,none⟩) hg1r).trans t2;have t3:=(hb5.cell (p:=⟨g1,_,none⟩) hg1r).trans t3;have hwor:=Nat.lt_of_lt_of_le hwor hb5.size;have hglr:=Nat.lt_of_lt_of_le hglr hb5.size;have hg1r:=Nat.lt_of_lt_of_le hg1r hb5.size;have HO:=mkA (own_kept_no HO.out (grown_below (World.grownBy.refl _ none) hb5));have HBL:=mkA (HBL.out.trans (hb5.mono hsz));have hsz:=Nat.le_trans hsz hb5.size;have HQ:=mkA ((hb5.block _ (blk_lt HQ.out)).trans HQ.out);clear hb5) | (at_builtin;refine print_append_cells (w0:=w2) (W:=w5) b2 rfl (.tmp 90) (.tmp 94) 55 58 (.agg #[.int .i64 0,.int .i64 0]) 2 16 rfl Tryz.underlying55 info58 rfl (by decide) (by decide) u7 al2 (pairCells acc2) [.int .i64 i,.int .i64 b] (by rfl) (by simp [Act.eval]) rfl (by simp [Value.oneCell']) HO.out HBL.out hsz (by omega) ?_;intro v8 w8 hv8 hb8 hg8 hat8;have HV8:=mkA hv8;have HB8:=mkA hb8;have HQ8:=mkA ((hg8.block _ (blk_lt HQ.out) (fun e=>own58_neT HO.out HQ.out (by decide) e.symm)).trans HQ.out);have hsz8:=hg8.size;clear hv8 hb8 hg8 hat8))
                go_roundg (nbr - (b + 1))
                case measure=>have:=HK.out;omega
                case rel =>
                  refine ⟨b + 1,true,acc2 ++ [((i:Int),(b:Int))],by first | rfl | go_num,by go_num,⟨by omega,rfl,(by rw [← HUN.out,List.append_assoc];rfl),by rw [List.length_append,List.length_singleton];have:=HK.out.2.2.2;omega⟩,⟨?_⟩,HB8,HQ8,by omega⟩
                  rw [pairCells_snoc2,List.length_append,List.length_singleton,HAL2.out]
                  exact HV8.out
          · have hfx:Lx.fixAt CL b=false:=by unfold Lx.fixAt;rw [HCL.out.2 b (by omega)]
            have hdm:decide ((b:Int) < (m:Int))=false:=decide_eq_false (by omega)
            rw [hfx] at hun
            simp only [Bool.false_and,Bool.or_false] at hun
            cases al
            · have HUN:=mkA hun
              clear hun
              go_wp2_with fail
              go_roundg (nbr - (b + 1))
              case measure=>have:=HK.out;omega
              case rel=>exact ⟨b + 1,false,acc2,by first | rfl | go_num,by go_num,⟨by omega,rfl,(by rw [← HUN.out];rfl),by have:=HK.out.2.2.2;omega⟩,⟨by rw [HAL2.out];exact HO.out⟩,HBL,HQ,by omega⟩
            · have HUN:=mkA hun
              clear hun
              go_wp2_with (first | (at_builtin;refine print_append_cells (w0:=w2) (W:=wr) b2 rfl (.tmp 90) (.tmp 94) 55 58 (.agg #[.int .i64 0,.int .i64 0]) 2 16 rfl Tryz.underlying55 info58 rfl (by decide) (by decide) u7 al2 (pairCells acc2) [.int .i64 i,.int .i64 b] (by rfl) (by simp [Act.eval]) rfl (by simp [Value.oneCell']) HO.out HBL.out hsz (by omega) ?_;intro v8 w8 hv8 hb8 hg8 hat8;have HV8:=mkA hv8;have HB8:=mkA hb8;have HQ8:=mkA ((hg8.block _ (blk_lt HQ.out) (fun e=>own58_neT HO.out HQ.out (by decide) e.symm)).trans HQ.out);have hsz8:=hg8.size;clear hv8 hb8 hg8 hat8))
              go_roundg (nbr - (b + 1))
              case measure=>have:=HK.out;omega
              case rel =>
                refine ⟨b + 1,true,acc2 ++ [((i:Int),(b:Int))],by first | rfl | go_num,by go_num,⟨by omega,rfl,(by rw [← HUN.out,List.append_assoc];rfl),by rw [List.length_append,List.length_singleton];have:=HK.out.2.2.2;omega⟩,⟨?_⟩,HB8,HQ8,by omega⟩
                rw [pairCells_snoc2,List.length_append,List.length_singleton,HAL2.out]
                exact HV8.out
        · obtain rfl:b=nbr:=by omega
          go_wp2_with fail
          go_roundg (gn - (i + 1))
          case measure=>have:=HJ.out;omega
          case rel=>exact ⟨i + 1,acc2,by go_num,⟨by omega,rfl,(by have h5:=HK.out.2.2.1;rw [Nat.sub_self] at h5;rw [HGX.out,← h5];simp [Lx.deadF]),by have:=HK.out.2.2.2;omega⟩,HO0,HBL,hsz⟩
    · obtain rfl:i=gn:=by omega
      have e1:acc=Lx.deadGs L gs 0:=by rw [HJ.out.2.2.1,List.take_of_length_le (by have:=HGN.out;omega)]
      have HE1:=mkA e1
      clear e1
      go_wp2_with fail
      go_ret2
      refine ⟨_,rfl,?_,HBW2.out.trans (HBK.out.mono hwb2)⟩
      rw [← HE1.out]
      exact own_mono HACC.out hwb2
theorem outL_len (l:List ByteArray):(outL l).length ≤ l.length:=by
  unfold outL sortedL bytesL
  rw [List.length_map]
  refine Nat.le_trans (compact_len _) ?_
  simp
theorem askL_len (m:Nat):∀ (L:List Lx.Tok),(∀ t ∈ L,t.t.size ≤ m) → (L.flatMap Lx.askR).length ≤ L.length * (m + 1)
  | [],_=>by simp
  | t :: r,h=>by
    have h1:=askL_len m r fun x hx=>h x (List.mem_cons_of_mem _ hx)
    have h2:=askR_len t
    have h3:=h t List.mem_cons_self
    rw [List.flatMap_cons,List.length_append,List.length_cons,Nat.succ_mul]
    omega
theorem deadGs_len (L:List Lx.Tok):∀ (gs:List Lx.G) (i:Nat),(∀ g ∈ gs,g.br.toNat ≤ 200000) → (Lx.deadGs L gs i).length ≤ gs.length * 200000
  | [],i,_=>by simp [Lx.deadGs]
  | g :: r,i,h=>by
    have h1:=deadGs_len L r (i + 1) fun x hx=>h x (List.mem_cons_of_mem _ hx)
    have h2:=Lx.deadF_len (Lx.condsL L (g.lines.take (g.lines.length - 1))) i g.br.toNat 0 false
    have h3:=h g List.mem_cons_self
    have e:Lx.deadGs L (g :: r) i=Lx.deadG L g i ++ Lx.deadGs L r (i + 1):=rfl
    have e2:Lx.deadG L g i=Lx.deadF (Lx.condsL L (g.lines.take (g.lines.length - 1))) i g.br.toNat 0 false:=rfl
    rw [e,List.length_append,List.length_cons,Nat.succ_mul,e2]
    omega
theorem deadL_len (L:List Lx.Tok) (hlen:L.length ≤ 3001) (hE:(Lx.groups (L.map Lx.kindOf)).2.1=0):(Lx.deadL L).length ≤ 1000000000:=by
  have hsm:Lx.Small (Lx.groups (L.map Lx.kindOf)).1:=Lx.groups_small 0 (L.map Lx.kindOf) (by rw [List.length_map];omega)
  have hsh:=(Lx.groups_form (L.map Lx.kindOf) hE).1
  have hll:=Lx.lines_len L
  have h:=deadGs_len L (Lx.groups (L.map Lx.kindOf)).1 0 fun g hg=>by
    have hl:=(hsm.2 g hg).1
    obtain ⟨d,hd,hd5⟩:=Lx.shut_br (hsh g hg) hl
    omega
  have h2:(Lx.groups (L.map Lx.kindOf)).1.length * 200000 ≤ 3001 * 200000:=Nat.mul_le_mul_right _ (by omega)
  unfold Lx.deadL
  omega
def GivesP (f:Nat) (w:World) (args:Array Value) (E:Int) (V:List (Int × Int)):Prop :=
  Calls Tryz.prog f args w fun e w' => ∃ rv,e=.returned (.tuple #[rv,.int .i64 E])∧w'.ownsRow w.heap.size 58 2 rv V.length (pairCells V)∧Below w.heap.size w w'
def GivesS (f:Nat) (w:World) (args:Array Value) (E:Int) (V:List ByteArray):Prop :=
  Calls Tryz.prog f args w fun e w' => ∃ rv,e=.returned (.tuple #[rv,.int .i64 E])∧w'.ownsRow w.heap.size 9 1 rv V.length (strCells V)∧Below w.heap.size w w'
theorem givesP_err {f:Nat} {w:World} {args:Array Value} {E:Int} (h:Calls Tryz.prog f args w fun e w'=>e=.returned (.tuple #[.slice none 0 0,.int .i64 E])∧Below w.heap.size w w'):GivesP f w args E [] :=
  h.mono fun e w' ⟨h1,h2⟩=>⟨_,h1,⟨rfl,.inl ⟨rfl,rfl⟩⟩,h2⟩
theorem givesS_err {f:Nat} {w:World} {args:Array Value} {E:Int} (h:Calls Tryz.prog f args w fun e w'=>e=.returned (.tuple #[.slice none 0 0,.int .i64 E])∧Below w.heap.size w w'):GivesS f w args E [] :=
  h.mono fun e w' ⟨h1,h2⟩=>⟨_,h1,⟨rfl,.inl ⟨rfl,rfl⟩⟩,h2⟩
theorem both_of (L:List Lx.Tok) (i:Int) (hlen:L.length ≤ 3001) (hs3:∀ t ∈ L,t.t.size ≤ 3000):∃ (E:Int) (V:List (Int × Int)),V.length ≤ 1000000000 ∧
    (∀ v w,Tks w v L → Laid w → GivesP 27 w #[v,.int .i64 i] E V)∧(∀ v w,Tks w v L → Laid w → GivesP 31 w #[v,.int .i64 i] E V):=by
  have hs:∀ t ∈ L,t.t.size ≤ 20000:=fun t ht=>Nat.le_trans (hs3 t ht) (by omega)
  obtain ⟨E,hE⟩:∃ E,(Lx.groups (L.map Lx.kindOf)).2.1=E:=⟨_,rfl⟩
  by_cases h0:E=0
  · subst h0
    have hsm:Lx.Small (Lx.groups (L.map Lx.kindOf)).1:=Lx.groups_small 0 (L.map Lx.kindOf) (by rw [List.length_map];omega)
    obtain ⟨outs,hP,hol,hout⟩:=Lx.of_law (L.map Lx.kindOf) hE
    rw [List.length_map] at hP hol
    by_cases hi:i < 0 ∨ (L.length:Int) ≤ i
    · exact ⟨1,[],Nat.zero_le _,fun v w hT hL=>givesP_err (of_range v L w i hi hT (by omega) hs hL hE outs hP hsm hol),fun v w hT hL=>givesP_err (refof_range v L w hT (by omega) hs i hi hE)⟩
    · have hi':0 ≤ i∧i < (L.length:Int):=⟨by omega,by omega⟩
      obtain ⟨j,hj⟩:∃ j:Nat,i=(j:Int):=⟨i.toNat,by omega⟩
      obtain ⟨o,ho⟩:∃ o,outs[j]? = some o:=⟨_,List.getElem?_eq_getElem (by omega)⟩
      obtain ⟨e1,e2⟩:=hout j o ho
      refine ⟨0,o,?_,fun v w hT hL => ?_,fun v w hT hL => ?_⟩
      · rw [e1]
        exact Nat.le_trans (ofR_len _ _ _) (Nat.le_trans hsm.1 (by omega))
      · rw [hj]
        exact of_calls v L w hT (by omega) hs hL hE outs hP hsm hol j o ho
      · exact refof_ok v L w hT (by omega) hs i hi' hE o (by rw [e1,hj])
  · have hne:(E != 0)=true:=by simpa using h0
    exact ⟨E,[],Nat.zero_le _,fun v w hT hL=>givesP_err (of_err v L w i hT (by omega) hs hL E hE hne),fun v w hT hL=>givesP_err (refof_err v L w hT (by omega) hs i E hE hne)⟩
theorem both_names (L:List Lx.Tok) (hlen:L.length ≤ 3001) (hs3:∀ t ∈ L,t.t.size ≤ 3000):∃ (E:Int) (V:List ByteArray),V.length ≤ 1000000000 ∧
    (∀ v w,Tks w v L → Laid w → GivesS 32 w #[v] E V)∧(∀ v w,Tks w v L → Laid w → GivesS 33 w #[v] E V):=by
  have hs:∀ t ∈ L,t.t.size ≤ 20000:=fun t ht=>Nat.le_trans (hs3 t ht) (by omega)
  obtain ⟨E,hE⟩:∃ E,(Lx.groups (L.map Lx.kindOf)).2.1=E:=⟨_,rfl⟩
  by_cases h0:E=0
  · subst h0
    refine ⟨0,outL (L.flatMap Lx.askR),?_,fun v w hT hL=>names_calls v L w hT hlen hs3 hL hE,fun v w hT hL=>refnames_calls v L w hT (by omega) hs3 hE⟩
    have h1:=outL_len (L.flatMap Lx.askR)
    have h2:=askL_len 3000 L hs3
    have h3:L.length * (3000 + 1) ≤ 3001 * (3000 + 1):=Nat.mul_le_mul_right _ hlen
    omega
  · have hne:(E != 0)=true:=by simpa using h0
    exact ⟨E,[],Nat.zero_le _,fun v w hT hL=>givesS_err (names_err v L w hT (by omega) hs hL E hE hne),fun v w hT hL=>givesS_err (refnames_err v L w hT (by omega) hs E hE hne)⟩
theorem both_dead (L:List Lx.Tok) (hlen:L.length ≤ 3001) (hs3:∀ t ∈ L,t.t.size ≤ 3000):∃ (E:Int) (V:List (Int × Int)),V.length ≤ 1000000000 ∧
    (∀ v w,Tks w v L → Laid w → GivesP 34 w #[v] E V)∧(∀ v w,Tks w v L → Laid w → GivesP 35 w #[v] E V):=by
  have hs:∀ t ∈ L,t.t.size ≤ 20000:=fun t ht=>Nat.le_trans (hs3 t ht) (by omega)
  obtain ⟨E,hE⟩:∃ E,(Lx.groups (L.map Lx.kindOf)).2.1=E:=⟨_,rfl⟩
  by_cases h0:E=0
  · subst h0
    exact ⟨0,Lx.deadL L,deadL_len L hlen hE,fun v w hT hL=>dead_ok v L w hT (by omega) hs hL hE,fun v w hT hL=>refdead_ok v L w hT (by omega) hs hE⟩
  · have hne:(E != 0)=true:=by simpa using h0
    exact ⟨E,[],Nat.zero_le _,fun v w hT hL=>givesP_err (dead_err v L w hT (by omega) hs hL E hE hne),fun v w hT hL=>givesP_err (refdead_err v L w hT (by omega) hs E hE hne)⟩
theorem ext_le (s:ByteArray) (a b:Nat):(s.extract a b).size ≤ s.size:=by
  rw [ByteArray.size_extract];omega
theorem toks_short (s:ByteArray) (a:Nat) (f:Bool):∀ t ∈ Lx.toks s a f,t.t.size ≤ s.size:=by
  unfold Lx.toks
  split
  · rename_i h
    intro t ht
    rcases List.mem_cons.1 ht with rfl | ht
    · exact ext_le _ _ _
    · exact toks_short s _ false t ht
  · intro t ht
    rw [List.mem_singleton.1 ht]
    exact Nat.zero_le _
  termination_by s.size - a
  decreasing_by omega
theorem row_below {w W:World} {base:Nat} {e:TypeId} {size n:Nat} {v:Value} {xs:List Value} (h:w.ownsRow base e size v n xs) (hb:Below w.heap.size w W):W.ownsRow base e size v n xs :=
  own_same h fun k _ hk=>hb.block k hk
set_option maxRecDepth 100000 in
set_option maxHeartbeats 8000000 in
theorem condPlaces_calls (s:ByteArray) (i:Int) (w:World) (hL:Laid w) (hAW:AwC):Calls Tryz.prog 8 #[.string s,.int .i64 i] w fun e w'=>e=.returned (.bool true)∧Below w.heap.size w w':=by
  have HL:=mkA hL
  clear hL
  by_cases hs:3000 < s.size
  · have HSC:=mkA (scanned_long s w hs)
    clear hs
    go_enter Tryz.func8,Tryz.ntmps8
    go_wp2_with (first | (go_at_call 10;(with_reducible refine HSC.out.mono ?_);rintro e w' ⟨rfl,rfl⟩))
    go_ret
    exact ⟨rfl,Below.refl _ _⟩
  · have HSC:=mkA (scanned_calls s w (by omega))
    have hsl:∀ t ∈ Lx.scan s,t.t.size ≤ 3000:=fun t ht=>by have:=toks_short s 0 true t ht;omega
    have hlen:=scan_len s
    obtain ⟨L,hLL⟩:∃ L,Lx.scan s=L:=⟨_,rfl⟩
    rw [hLL] at HSC hsl hlen
    obtain ⟨E1,V1,hV1,h27,h31⟩:=both_of L i (by omega) hsl
    obtain ⟨E2,V2,hV2,h32,h33⟩:=both_names L (by omega) hsl
    obtain ⟨E3,V3,hV3,h34,h35⟩:=both_dead L (by omega) hsl
    simp only [GivesP] at h27 h31 h34 h35
    simp only [GivesS] at h32 h33
    have H27:=mkA h27
    have H31:=mkA h31
    have H32:=mkA h32
    have H33:=mkA h33
    have H34:=mkA h34
    have H35:=mkA h35
    clear hs hsl hlen hLL h27 h31 h32 h33 h34 h35
    go_enter Tryz.func8,Tryz.ntmps8
    go_wp2_with (first
      | (go_at_call 10;(with_reducible refine HSC.out.mono ?_);rintro e w1 ⟨v,rfl,hv,hb⟩;have HT1:=mkA (own_tks hv);have HB1:=mkA hb;have HL1:=mkA (HL.out.below HB1.out);clear hv hb) | (go_at_call 27;(refine (H27.out _ w1 HT1.out HL1.out).mono ?_);rintro e w2 ⟨ra,rfl,ho,hb⟩;have HA2:=mkA ho;have HT2:=mkA (HT1.out.below hb);have HB2:=mkA (HB1.out.trans (hb.mono HB1.out.size));have HL2:=mkA (HL.out.below HB2.out);clear ho hb) | (go_at_call 31;(refine (H31.out _ w2 HT2.out HL2.out).mono ?_);rintro e w3 ⟨rb,rfl,ho,hb⟩;have HA3:=mkA (row_below HA2.out hb);have HBB3:=mkA ho;have HT3:=mkA (HT2.out.below hb);have HB3:=mkA (HB2.out.trans (hb.mono HB2.out.size));have HL3:=mkA (HL.out.below HB3.out);clear ho hb) | (go_at_call 32;(refine (H32.out _ w3 HT3.out HL3.out).mono ?_);rintro e w4 ⟨rx,rfl,ho,hb⟩;have HA4:=mkA (row_below HA3.out hb);have HBB4:=mkA (row_below HBB3.out hb);have HX4:=mkA ho;have HT4:=mkA (HT3.out.below hb);have HB4:=mkA (HB3.out.trans (hb.mono HB3.out.size));have HL4:=mkA (HL.out.below HB4.out);clear ho hb) | (go_at_call 33;(refine (H33.out _ w4 HT4.out HL4.out).mono ?_);rintro e w5 ⟨ry,rfl,ho,hb⟩;have HA5:=mkA (row_below HA4.out hb);have HBB5:=mkA (row_below HBB4.out hb);have HX5:=mkA (row_below HX4.out hb);have HY5:=mkA ho;have HT5:=mkA (HT4.out.below hb);have HB5:=mkA (HB4.out.trans (hb.mono HB4.out.size));have HL5:=mkA (HL.out.below HB5.out);clear ho hb) | (go_at_call 34;(refine (H34.out _ w5 HT5.out HL5.out).mono ?_);rintro e w6 ⟨rp,rfl,ho,hb⟩;have HA6:=mkA (row_below HA5.out hb);have HBB6:=mkA (row_below HBB5.out hb);have HX6:=mkA (row_below HX5.out hb);have HY6:=mkA (row_below HY5.out hb);have HP6:=mkA ho;have HT6:=mkA (HT5.out.below hb);have HB6:=mkA (HB5.out.trans (hb.mono HB5.out.size));have HL6:=mkA (HL.out.below HB6.out);clear ho hb) | (go_at_call 35;(refine (H35.out _ w6 HT6.out HL6.out).mono ?_);rintro e w7 ⟨rq,rfl,ho,hb⟩;have HQ1:=mkA (eqTwos_calls ra rb V1 w7 _ _ hV1 (row_below HA6.out hb) (row_below HBB6.out hb));have HX7:=mkA (row_below HX6.out hb);have HY7:=mkA (row_below HY6.out hb);have HP7:=mkA (row_below HP6.out hb);have HQ7:=mkA ho;have HB7:=mkA (HB6.out.trans (hb.mono HB6.out.size));clear ho hb) | (go_at_call 36;(with_reducible refine HQ1.out.mono ?_);rintro e w8 ⟨rfl,hd⟩;have hb:=below_drawn hd;have HQ2:=mkA (eqStrs_calls rx ry V2 w8 _ _ hV2 (row_below HX7.out hb) (row_below HY7.out hb));have HP8:=mkA (row_below HP7.out hb);have HQ8:=mkA (row_below HQ7.out hb);have HB8:=mkA (HB7.out.trans (hb.mono HB7.out.size));clear hd hb) | (go_at_call 37;(with_reducible refine HQ2.out.mono ?_);rintro e w9 ⟨rfl,hd⟩;have hb:=below_drawn hd;have HQ3:=mkA (eqTwos_calls rp rq V3 w9 _ _ hV3 (row_below HP8.out hb) (row_below HQ8.out hb));have HB9:=mkA (HB8.out.trans (hb.mono HB8.out.size));clear hd hb) | (go_at_call 36;(with_reducible refine HQ3.out.mono ?_);rintro e w10 ⟨rfl,hd⟩;have hb:=below_drawn hd;have HB10:=mkA (HB9.out.trans (hb.mono HB9.out.size));clear hd hb) | (go_at_call 19;(refine (hAW w10 (HL.out.below HB10.out)).mono ?_);rintro e w11 ⟨rfl,hb⟩;have HB11:=mkA (HB10.out.trans (hb.mono HB10.out.size));clear hb))
    go_ret
    exact ⟨rfl,HB11.out⟩
end Go.Proofs.YtjnafjgonoficaaGreatDoor
