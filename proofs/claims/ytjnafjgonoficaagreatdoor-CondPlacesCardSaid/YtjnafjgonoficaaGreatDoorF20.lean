/-
  What the reference's Groups comes to. Conditions: the tokens lie in memory; they are short.
  What the reference's Choose comes to. Conditions: the tokens and the definitions lie in memory; the tokens are short.
-/
import Derived.Test.YtjnafjgonoficaaGreatDoorF19
set_option linter.unusedVariables false
set_option linter.unusedSimpArgs false
namespace Go.Proofs.YtjnafjgonoficaaGreatDoor
open Go.RowKit Go.Proofs.YtjnafjgonoficaaGreatDoorW.PrintWords
theorem info4:(Tryz.prog.info? 4).map (fun i=>(i.zero,i.size,i.bytes))=some (some (.bool false),1,1):=by kernel_rfl
theorem info42:(Tryz.prog.info? 42).map (fun i=>(i.zero,i.size,i.bytes))=some (some (.agg #[.slice none 0 0,.int .i64 0,.int .i64 0,.int .i64 0]),4,48):=by kernel_rfl
theorem st_len:∀ (st:List (Nat × Nat × Bool)) (N:Nat),st.Pairwise (fun p q=>q.1 < p.1) → (∀ p ∈ st,p.1 < N) → st.length ≤ N
  | [],N,_,_=>Nat.zero_le _
  | p :: r,N,h,hl=>by
    have h1:=List.pairwise_cons.1 h
    have:=st_len r p.1 h1.2 h1.1
    have:=hl p List.mem_cons_self
    simp only [List.length_cons];omega
theorem own_cap {w:World} {base g m cap n:Nat} {e:TypeId} {size:Nat} {xs:List Value} (h:w.ownsRow base e size (.slice (some ⟨g,0,none⟩) m cap) n xs):n ≤ cap:=by
  rcases h.2 with ⟨h',_⟩ | ⟨g',cap',cur,h',_,_,hnc,_⟩
  · simp at h'
  · simp only [Value.slice.injEq] at h'
    rw [h'.2.2];exact hnc
theorem rs_done {w:World} {base g8 c8 g9 c9 n b q:Nat} {gs gs':List Lx.G} {e:Bool} {st r:List (Nat × Nat × Bool)} {u7:Value} {ls:List Value}
    (h:RSc w base u7 (.slice (some ⟨g8,0,none⟩) (q + 1) c8) (.slice (some ⟨g9,0,none⟩) (q + 1) c9) ⟨gs',st⟩ ls) (hst:st=(n,b,e) :: r) (hq:r.length=q) (hg:gs'=gs) :
    RSc w base u7 (.slice (some ⟨g8,0,none⟩) q c8) (.slice (some ⟨g9,0,none⟩) q c9) ⟨gs,r⟩ ls:=by
  subst hst hq hg
  exact rs_pop h
theorem closes_cases (k:ByteArray) (h:Lx.closes k=true):((k.toList == Lx.sElif)=true∧(k.toList == Lx.sElse)=false∧(k.toList == Lx.sEndif)=false) ∨ ((k.toList == Lx.sElif)=false∧(k.toList == Lx.sElse)=true∧(k.toList == Lx.sEndif)=false) ∨ ((k.toList == Lx.sElif)=false∧(k.toList == Lx.sElse)=false∧(k.toList == Lx.sEndif)=true):=by
  unfold Lx.closes at h
  cases h1:(k.toList == Lx.sElif)
  · cases h2:(k.toList == Lx.sElse)
    · rw [h1,h2] at h
      exact .inr (.inr ⟨rfl,rfl,by simpa using h⟩)
    · rw [beq_iff_eq.mp h2]
      exact .inr (.inl ⟨rfl,rfl,rfl⟩)
  · rw [beq_iff_eq.mp h1]
    exact .inl ⟨rfl,rfl,rfl⟩
theorem rs_read9 {w:World} {base g9 q c9 n b:Nat} {e:Bool} {r:List (Nat × Nat × Bool)} {u7 u8:Value} {S:Lx.GS} {ls:List Value} (h:RSc w base u7 u8 (.slice (some ⟨g9,0,none⟩) (q + 1) c9) S ls) (hst:S.st=(n,b,e) :: r) (hq:r.length=q):w.cell? ⟨g9,q,none⟩=some (.bool e)∧∀ x,w.frozen? ⟨g9,x,none⟩=false:=by
  have h1:=h.2.2.2.2.1
  rw [hst,List.length_cons,hq,Lx.elses_cons,boolCells_snoc] at h1
  refine ⟨?_,fun x=>h1.frozenAt x⟩
  rw [h1.cellAt q (by omega),List.getElem?_append_right (by unfold boolCells;rw [List.length_map,Lx.elses_len,hq];exact Nat.le_refl _)]
  unfold boolCells;rw [List.length_map,Lx.elses_len,hq,Nat.sub_self];rfl
theorem rs_read8 {w:World} {base g8 q c8 n b:Nat} {e:Bool} {r:List (Nat × Nat × Bool)} {u7 u9:Value} {S:Lx.GS} {ls:List Value} (h:RSc w base u7 (.slice (some ⟨g8,0,none⟩) (q + 1) c8) u9 S ls) (hst:S.st=(n,b,e) :: r) (hq:r.length=q):w.cell? ⟨g8,q,none⟩=some (.int .i64 n):=by
  have h1:=h.2.2.2.1
  rw [hst,List.length_cons,hq,Lx.nums_cons,intCells_snoc] at h1
  rw [h1.cellAt q (by omega),List.getElem?_append_right (by unfold intCells;rw [List.length_map,Lx.nums_len,hq];exact Nat.le_refl _)]
  unfold intCells;rw [List.length_map,Lx.nums_len,hq,Nat.sub_self];rfl
theorem rs_read7 {w:World} {base g7 N c7 n:Nat} {u8 u9 lv:Value} {S:Lx.GS} {ls:List Value} {g:Lx.G} (h:RSc w base (.slice (some ⟨g7,0,none⟩) N c7) u8 u9 S ls) (hN:S.gs.length=N) (hl:ls[n]? = some lv) (hg:S.gs[n]? = some g) :
    w.cell? ⟨g7,n * 4,none⟩=some lv∧w.cell? ⟨g7,n * 4 + 1,none⟩=some (.int .i64 g.br)∧∀ x,w.frozen? ⟨g7,x,none⟩=false:=by
  have h1:=h.2.1
  have hn:=(List.getElem?_eq_some_iff.1 hg).1
  rw [hN] at h1 hn
  obtain ⟨e0,e1⟩:=gcells_at ls S.gs n lv g hl hg
  exact ⟨by rw [h1.cellAt (n * 4) (by omega)];exact e0,by rw [h1.cellAt (n * 4 + 1) (by omega)];exact e1,fun x=>h1.frozenAt x⟩
theorem rs_bump {w:World} {base n b b':Nat} {e:Bool} {r:List (Nat × Nat × Bool)} {u7 u8 u9:Value} {gs:List Lx.G} {ls:List Value} (h:RSc w base u7 u8 u9 ⟨gs,(n,b,e) :: r⟩ ls):RSc w base u7 u8 u9 ⟨gs,(n,b',e) :: r⟩ ls:=by
  obtain ⟨hll,hown,hrows,o8,o9,hd⟩:=h
  refine ⟨hll,hown,hrows,?_,?_,hd⟩
  · dsimp only at o8 ⊢
    rw [Lx.nums_cons] at o8 ⊢
    exact o8
  · dsimp only at o9 ⊢
    rw [Lx.elses_cons] at o9 ⊢
    exact o9
theorem rs_start (w:World) (base:Nat):RS w base (.slice none 0 0) (.slice none 0 0) (.slice none 0 0) Lx.gs0 :=
  ⟨[],rfl,own_nil _ _ _ _,⟨fun i l g h=>by simp at h,fun i j l l' _ h=>by simp at h⟩,own_nil _ _ _ _,own_nil _ _ _ _,fun i l h=>by simp at h⟩
set_option maxRecDepth 100000 in
set_option maxHeartbeats 16000000 in
theorem refGroups_calls (v:Value) (L:List Lx.Tok) (w:World) (hT:Tks w v L) (hlen:L.length ≤ 100000) (hs:∀ t ∈ L,t.t.size ≤ 20000) :
    Calls Tryz.prog 17 #[v] w fun e w' => ∃ gv,e=.returned (.tuple #[gv,.int .i64 (Lx.groups (L.map Lx.kindOf)).2.1,.int .i64 (Lx.groups (L.map Lx.kindOf)).2.2])∧Grp w' w.heap.size 42 gv (Lx.groups (L.map Lx.kindOf)).1∧Below w.heap.size w w':=by
  obtain ⟨A,c,rfl,hc1,hc2,hA⟩:=hT
  obtain ⟨n,hn⟩:∃ n,L.length=n:=⟨_,rfl⟩
  rw [hn] at hc1 hlen ⊢
  obtain ⟨ks,hks⟩:∃ ks,L.map Lx.kindOf=ks:=⟨_,rfl⟩
  have hkn:ks.length=n:=by rw [← hks,List.length_map,hn]
  rw [hks]
  obtain ⟨R,hR⟩:∃ R,Lx.groups ks=R:=⟨_,rfl⟩
  rw [hR]
  rw [← Lx.groups_same 2 ks] at hR
  have HKS:=mkA hks
  have HKN:=mkA hkn
  have HN:=mkA hn
  have HR:=mkA hR
  have HA:=mkA hA
  have HS:=mkA hs
  obtain ⟨base,hbase⟩:∃ base,w.heap.size=base:=⟨_,rfl⟩
  have HBASE:=mkA hbase
  rw [hbase]
  clear hks hkn hn hR hA hs hbase
  go_enter Tryz.func17,Tryz.ntmps17
  go_wp2_with fail
  go_loopg [5,6] n (fun kq v5 v6 W => ∃ i:Nat,v6=.int .i64 i∧v5=.int .i64 (Lx.nOpens (ks.take i))∧Aside0 (i ≤ n∧kq=n - i)∧Aside0 (Below base w W))
  case atStart=>exact ⟨0,rfl,rfl,⟨by omega,rfl⟩,⟨Below.refl _ _⟩⟩
  case round =>
    obtain ⟨i,rfl,rfl,HI,HB⟩:=hrel
    have hi:=HI.out.1
    by_cases hlt:i < n
    · obtain ⟨t,ht⟩:∃ t,L[i]? = some t:=⟨_,List.getElem?_eq_getElem (by have:=HN.out;omega)⟩
      have hne:L ≠ []:=fun e=>by rw [e] at ht;simp at ht
      obtain ⟨g,o,rfl,hta,hgl⟩:=HA.out.resolve_left hne
      obtain ⟨a0,a1,a2,a3⟩:=(hta.below (by rw [HBASE.out];exact HB.out) hgl) i t ht
      have hts:=HS.out t (List.mem_of_getElem? ht)
      have hki:ks[i]? = some (Lx.kindOf t):=by rw [← HKS.out,List.getElem?_map,ht];rfl
      obtain ⟨k,hk⟩:∃ k,Lx.kindOf t=k:=⟨_,rfl⟩
      rw [hk] at hki
      have hnop:Lx.nOpens (ks.take (i + 1))=Lx.nOpens (ks.take i) + (if Lx.opens k=true then 1 else 0):=by rw [take_snoc ks i k hki,Lx.nOpens_snoc]
      have hnle:=Lx.nOpens_le (ks.take i)
      rw [List.length_take] at hnle
      obtain ⟨m,hm⟩:∃ m,Lx.nOpens (ks.take i)=m:=⟨_,rfl⟩
      rw [hm] at hnop hnle ⊢
      have hm1:m ≤ 100000:=by omega
      obtain ⟨op,hop⟩:∃ op,Lx.opens k=op:=⟨_,rfl⟩
      rw [hop] at hnop
      have HNOP:=mkA hnop
      have HKI:=mkA hki
      have HK2:=mkA hk
      have HOP:=mkA hop
      have HTS:=mkA hts
      have hwb:base ≤ wr.heap.size:=by have h1:=HB.out.size;have h2:=HBASE.out;omega
      clear hne ht hta hgl hki hk hnop hnle hm hop hts
      cases op
      all_goals
        go_wp2_with (first | (go_at_call 14;(refine (refKind_calls t _ HTS.out).mono ?_);rintro e w' ⟨rfl,hb⟩;rw [HK2.out];have HBW:=mkA (HB.out.trans (hb.mono (by omega)));clear hb) | (go_at_call 45;(with_reducible refine (opensr_calls k _).mono ?_);rintro e w2 ⟨rfl,rfl⟩;rw [HOP.out]))
        go_roundg (n - (i + 1))
        case measure=>have:=HI.out;omega
        case rel =>
          refine ⟨i + 1,by go_num,?_,⟨by omega,rfl⟩,HBW⟩
          rw [HNOP.out];simp
    · obtain rfl:i=n:=by omega
      obtain ⟨w1,rfl⟩:∃ w1,w1=wr:=⟨_,rfl⟩
      have htk:ks.take i=ks:=List.take_of_length_le (by have:=HKN.out;omega)
      rw [htk]
      obtain ⟨m,hm⟩:∃ m,Lx.nOpens ks=m:=⟨_,rfl⟩
      have hmn:=Lx.nOpens_le ks
      rw [HKN.out,hm] at hmn
      rw [hm]
      have HMM:=mkA hm
      clear htk hm hlt
      by_cases hbig:200 < m
      · go_wp2_with fail
        go_ret3
        have hR0:R=([],2,0):=by rw [← HR.out];unfold Lx.groupsC;rw [HMM.out,if_pos hbig]
        subst hR0
        exact ⟨_,rfl,grp_nil _ _ _,HB.out⟩
      · have hR0:R=(match Lx.grun 2 Lx.gs0 ks 0 with
          | .inr j=>([],30,(j:Int))
          | .inl S=>if S.st.isEmpty=true then (S.gs,0,0) else ([],30,Lx.firstLine S)):=by
          rw [← HR.out];unfold Lx.groupsC;rw [HMM.out,if_neg hbig];rfl
        have HR0:=mkA hR0
        clear hR0
        go_wp2_with fail
        go_loopg [7,8,9,10] i (fun kq v7 v8 v9 v10 W => ∃ (j:Nat) (S:Lx.GS),v10=.int .i64 j∧Aside0 (j ≤ i∧kq=i - j∧Lx.grun 2 S (ks.drop j) j=Lx.grun 2 Lx.gs0 ks 0∧Lx.Good S∧Lx.Sm S j)∧Aside0 (RS W base v7 v8 v9 S)∧Aside0 (Below base w W))
        case atStart=>exact ⟨0,Lx.gs0,rfl,⟨by omega,rfl,rfl,Lx.good0,Lx.sm0⟩,⟨rs_start _ _⟩,HB⟩
        case round =>
          obtain ⟨j,S,rfl,HJ,HRS,HBJ⟩:=hrel
          have hj:=HJ.out.1
          have hwb:base ≤ wr.heap.size:=by have h1:=HBJ.out.size;have h2:=HBASE.out;omega
          by_cases hjl:j < i
          · obtain ⟨t,ht⟩:∃ t,L[j]? = some t:=⟨_,List.getElem?_eq_getElem (by have:=HN.out;omega)⟩
            have hne:L ≠ []:=fun e=>by rw [e] at ht;simp at ht
            obtain ⟨g,o,rfl,hta,hgl⟩:=HA.out.resolve_left hne
            obtain ⟨a0,a1,a2,a3⟩:=(hta.below (by rw [HBASE.out];exact HBJ.out) hgl) j t ht
            have hts:=HS.out t (List.mem_of_getElem? ht)
            have hki:ks[j]? = some (Lx.kindOf t):=by rw [← HKS.out,List.getElem?_map,ht];rfl
            obtain ⟨k,hk⟩:∃ k,Lx.kindOf t=k:=⟨_,rfl⟩
            rw [hk] at hki
            have hgr:=grun_step 2 S ks j k hki
            rw [HJ.out.2.2.1] at hgr
            obtain ⟨N,hN⟩:∃ N,S.gs.length=N:=⟨_,rfl⟩
            have hN1:N ≤ 100000:=by have:=HJ.out.2.2.2.2.1;omega
            have HTS:=mkA hts
            have HKI:=mkA hki
            have HK2:=mkA hk
            have HNN:=mkA hN
            have HGR:=mkA hgr
            clear hne ht hta hgl hki hk hts hN hgr
            obtain ⟨ls,hrs⟩:=HRS.out
            have HRSC:=mkA hrs
            obtain ⟨A8,c8,rfl⟩:=own_slice hrs.2.2.2.1
            obtain ⟨A9,c9,rfl⟩:=own_slice hrs.2.2.2.2.1
            obtain ⟨A7,c7,rfl⟩:=own_slice hrs.2.1
            have hstl:=st_len S.st N HJ.out.2.2.2.1.desc (fun p hp=>by have:=HJ.out.2.2.2.1.lt p hp;rw [HNN.out] at this;exact this)
            obtain ⟨st,hst⟩:∃ st,S.st=st:=⟨_,rfl⟩
            have HST:=mkA hst
            rw [HNN.out,hst] at HRSC ⊢
            rw [hst] at hstl
            obtain ⟨m8,hm8⟩:∃ m8,st.length=m8:=⟨_,rfl⟩
            have HM8:=mkA hm8
            rw [hm8] at hstl HRSC ⊢
            have hw8:IntKind.i64.wrap ((m8:Int) - 1)=(m8:Int) - 1:=IntWalk.i64_in _ (by omega)
            clear hrs hst hm8
            obtain ⟨op,hop⟩:∃ op,Lx.opens k=op:=⟨_,rfl⟩
            have HOP:=mkA hop
            cases op
            · cases hc:Lx.closes k
              · have hgs:Lx.gstep 2 S k j=some S:=by unfold Lx.gstep;rw [hop,hc];rfl
                have h9:=HGR.out
                rw [hgs] at h9
                have HGR2:=mkA h9
                unfold Lx.closes at hc
                rw [Bool.or_eq_false_iff,Bool.or_eq_false_iff] at hc
                obtain ⟨⟨h1,h2⟩,h3⟩:=hc
                unfold Lx.sElif at h1
                unfold Lx.sElse at h2
                unfold Lx.sEndif at h3
                clear hop hgs h9
                go_wp2_with (first | (go_at_call 14;(refine (refKind_calls t _ HTS.out).mono ?_);rintro e w' ⟨rfl,hb⟩;rw [HK2.out];have hrs':=HRSC.out.no (grown_below (World.grownBy.refl wr none) hb);have HRS':=mkA hrs';have HBW:=mkA (HBJ.out.trans (hb.mono (by omega)));have hsw':=hb.size;skip;clear hb hrs') | (go_at_call 45;(with_reducible refine (opensr_calls k _).mono ?_);rintro e w2 ⟨rfl,rfl⟩;rw [HOP.out]))
                go_roundg (i - (j + 1))
                case measure=>have:=HJ.out;omega
                case rel =>
                  have h5:=HRS'.out
                  refine ⟨j + 1,S,by go_num,⟨by omega,rfl,HGR2.out.symm,HJ.out.2.2.2.1,⟨by have:=HJ.out.2.2.2.2.1;omega,fun g hg=>⟨by have:=(HJ.out.2.2.2.2.2 g hg).1;omega,fun x hx=>by have:=(HJ.out.2.2.2.2.2 g hg).2 x hx;omega⟩⟩⟩,⟨ls,h5⟩,HBW⟩
              · have hcc:=closes_cases k hc
                rcases st with _ | ⟨⟨n0,b0,e0⟩,r⟩
                · have hgs:Lx.gstep 2 S k j=none:=by unfold Lx.gstep;rw [hop,hc,HST.out];rfl
                  have h9:=HGR.out
                  rw [hgs] at h9
                  have HGR2:=mkA h9
                  obtain rfl:m8=0:=by have:=HM8.out;simpa using this.symm
                  unfold Lx.sElif Lx.sElse Lx.sEndif at hcc
                  have hR1:R=([],30,(j:Int)):=by rw [HR0.out,HGR2.out]
                  subst hR1
                  clear hop hgs h9 hc
                  rcases hcc with ⟨h1,h2,h3⟩ | ⟨h1,h2,h3⟩ | ⟨h1,h2,h3⟩
                  all_goals
                    go_wp2_with (first | (go_at_call 14;(refine (refKind_calls t _ HTS.out).mono ?_);rintro e w' ⟨rfl,hb⟩;rw [HK2.out];have hrs':=HRSC.out.no (grown_below (World.grownBy.refl wr none) hb);have HRS':=mkA hrs';have HBW:=mkA (HBJ.out.trans (hb.mono (by omega)));have hsw':=hb.size;skip;clear hb hrs') | (go_at_call 45;(with_reducible refine (opensr_calls k _).mono ?_);rintro e w2 ⟨rfl,rfl⟩;rw [HOP.out]))
                    go_ret3
                    exact ⟨_,rfl,grp_nil _ _ _,HBW.out⟩
                · cases hen:(e0 && !(k.toList == Lx.sEndif))
                  · cases h6:(k.toList == Lx.sEndif)
                    · rw [h6] at hen hcc
                      have he:e0=false:=by simpa using hen
                      subst he
                      obtain ⟨e',he'⟩:∃ e',(k.toList == Lx.sElse)=e':=⟨_,rfl⟩
                      have hgs:Lx.gstep 2 S k j=some ⟨S.gs.modify n0 fun g=>⟨g.lines ++ [(j:Int)],g.br,g.par,g.bch⟩,(n0,b0 + 1,e') :: r⟩:=by unfold Lx.gstep;rw [hop,hc,HST.out];dsimp only;rw [h6,he'];rfl
                      have h9:=HGR.out
                      rw [hgs] at h9
                      have HGR2:=mkA h9
                      have hgd:=Lx.good_step 2 S _ k j hgs HJ.out.2.2.2.1
                      have hsm:=Lx.sm_step 2 S _ k j hgs HJ.out.2.2.2.2
                      have HGD:=mkA (And.intro hgd hsm)
                      obtain ⟨q,hq⟩:∃ q,r.length=q:=⟨_,rfl⟩
                      have HQ:=mkA hq
                      obtain rfl:m8=q + 1:=by have:=HM8.out;simp only [List.length_cons] at this;omega
                      obtain ⟨e1,he1⟩:∃ e1,S.st=(n0,b0,e1) :: r:=⟨_,HST.out⟩
                      have hn0:n0 < S.gs.length:=HJ.out.2.2.2.1.lt (n0,b0,e1) (by rw [he1];exact List.mem_cons_self)
                      obtain ⟨gg,hgg⟩:∃ gg,S.gs[n0]? = some gg:=⟨_,List.getElem?_eq_getElem hn0⟩
                      have hlen:=HJ.out.2.2.2.1.len (n0,b0,e1) (by rw [he1];exact List.mem_cons_self) gg hgg
                      dsimp only at hlen
                      have hb0:b0 ≤ 100000:=by have:=(HJ.out.2.2.2.2.2 gg (List.mem_iff_getElem?.2 ⟨n0,hgg⟩)).1;omega
                      obtain ⟨lv,hlv⟩:∃ lv,ls[n0]? = some lv:=⟨_,List.getElem?_eq_getElem (by have:=HRSC.out.1;omega)⟩
                      have hlvo:=(HRSC.out.2.2.1.1 n0 lv gg hlv hgg).2
                      rw [hlen] at hlvo
                      obtain ⟨gl,cl,rfl,-,-⟩:=hlvo.form (by omega)
                      obtain ⟨g7,c7',e7,hg7b,-⟩:=HRSC.out.2.1.form (by omega)
                      simp only [Value.slice.injEq] at e7
                      obtain ⟨rfl,-,rfl⟩:=e7
                      obtain ⟨g8,c8',e8,-,-⟩:=HRSC.out.2.2.2.1.form (by rw [HST.out];simp)
                      simp only [Value.slice.injEq] at e8
                      obtain ⟨rfl,-,rfl⟩:=e8
                      obtain ⟨g9,c9',e9,hg9b,-⟩:=HRSC.out.2.2.2.2.1.form (by rw [HST.out];simp)
                      simp only [Value.slice.injEq] at e9
                      obtain ⟨rfl,-,rfl⟩:=e9
                      have hc8:q + 1 ≤ c8:=by have h7:=own_cap HRSC.out.2.2.2.1;rw [HST.out,HM8.out] at h7;exact h7
                      have hc9:q + 1 ≤ c9:=by have h7:=own_cap HRSC.out.2.2.2.2.1;rw [HST.out,HM8.out] at h7;exact h7
                      have HGG:=mkA (And.intro hgg hlv)
                      have HLEN:=mkA hlen
                      rw [HNN.out] at hn0
                      have hw9:IntKind.i64.wrap ((b0:Int) + 1 + 1)=(b0:Int) + 1 + 1:=IntWalk.i64_in _ (by omega)
                      have hw10:IntKind.i64.wrap ((b0:Int) + 1)=(b0:Int) + 1:=IntWalk.i64_in _ (by omega)
                      clear he1 hq hgg hlen hlv hlvo
                      rw [he'] at hcc
                      unfold Lx.sElif at hcc
                      unfold Lx.sElse at he'
                      unfold Lx.sEndif at h6
                      clear hop hgs h9 hc hen hgd hsm
                      rcases hcc with ⟨h1,h2,-⟩ | ⟨h1,h2,-⟩ | ⟨-,-,hx⟩
                      · subst h2
                        go_wp2_with (first | (go_at_call 14;(refine (refKind_calls t _ HTS.out).mono ?_);rintro e w' ⟨rfl,hb⟩;rw [HK2.out];have hrs':=HRSC.out.no (grown_below (World.grownBy.refl wr none) hb);have HRS':=mkA hrs';have HBW:=mkA (HBJ.out.trans (hb.mono (by omega)));have hsw':=hb.size;have x8:=rs_read8 hrs' HST.out HQ.out;obtain ⟨x9,-⟩:=rs_read9 hrs' HST.out HQ.out;obtain ⟨x7,-,-⟩:=rs_read7 hrs' HNN.out HGG.out.2 HGG.out.1;have HLVO:=mkA (hrs'.2.2.1.1 n0 _ gg HGG.out.2 HGG.out.1).2;clear hb hrs') | (go_at_call 45;(with_reducible refine (opensr_calls k _).mono ?_);rintro e w2 ⟨rfl,rfl⟩;rw [HOP.out]) | (at_builtin;refine print_append_cells (w0:=w) (W:=w') base rfl (.tmp 115) (.tmp 117) 39 3 (.int .i64 0) 1 8 rfl Tryz.underlying39 info3 rfl (by decide) (by decide) (.slice (some ⟨gl,0,none⟩) (b0 + 1) cl) (b0 + 1) (intCells gg.lines) [.int .i64 j] (by rfl) (by simp [Act.eval]) rfl (by simp [Value.oneCell']) (by have h7:=HLVO.out;rw [HLEN.out] at h7;exact h7) HBW.out (by omega) (by omega) ?_;intro v1 wa hv1 hb1 hg1 hat1;obtain ⟨g1,cp1,hv1e,-,-⟩:=hv1.form (by omega);subst hv1e;have h2:=rs_line (i:=(j:Int)) HRS'.out HGG.out.2 HGG.out.1 hg1 (by rw [HLEN.out];exact hv1) hat1;have hown1:=own_kept_row HRS'.out.2.1 (HRS'.out.2.2.1.1 n0 _ gg HGG.out.2 HGG.out.1).2 hg1 (by decide);rw [HNN.out] at hown1;have q0:wa.frozen? ⟨g7,n0 * 4,none⟩=false:=hown1.frozenAt _;have q1:wa.cell? ⟨g7,n0 * 4,none⟩=some (.slice (some ⟨gl,0,none⟩) (b0 + 1) cl):=(by rw [hown1.cellAt (n0 * 4) (by omega)];exact (gcells_at ls S.gs n0 _ gg HGG.out.2 HGG.out.1).1);have H2:=mkA h2;obtain ⟨x9',z9'⟩:=rs_read9 h2 (by exact HST.out) HQ.out;have z9:=z9' q;have HB1:=mkA (Below.setCell (p:=⟨g7,n0 * 4,none⟩) hb1 hg7b (.slice (some ⟨g1,0,none⟩) (b0 + 1 + 1) cp1));skip;clear hv1 hb1 hg1 hat1 h2 hown1 z9'))
                        go_roundg (i - (j + 1))
                        case measure=>have:=HJ.out;omega
                        case rel =>
                          refine ⟨j + 1,_,by go_num,⟨by omega,rfl,HGR2.out.symm,HGD.out.1,HGD.out.2⟩,⟨_,rs_bump (b':=b0 + 1) (by rw [← HST.out];exact H2.out)⟩,HB1⟩
                      · subst h2
                        go_wp2_with (first | (go_at_call 14;(refine (refKind_calls t _ HTS.out).mono ?_);rintro e w' ⟨rfl,hb⟩;rw [HK2.out];have hrs':=HRSC.out.no (grown_below (World.grownBy.refl wr none) hb);have HRS':=mkA hrs';have HBW:=mkA (HBJ.out.trans (hb.mono (by omega)));have hsw':=hb.size;have x8:=rs_read8 hrs' HST.out HQ.out;obtain ⟨x9,-⟩:=rs_read9 hrs' HST.out HQ.out;obtain ⟨x7,-,-⟩:=rs_read7 hrs' HNN.out HGG.out.2 HGG.out.1;have HLVO:=mkA (hrs'.2.2.1.1 n0 _ gg HGG.out.2 HGG.out.1).2;clear hb hrs') | (go_at_call 45;(with_reducible refine (opensr_calls k _).mono ?_);rintro e w2 ⟨rfl,rfl⟩;rw [HOP.out]) | (at_builtin;refine print_append_cells (w0:=w) (W:=w') base rfl (.tmp 115) (.tmp 117) 39 3 (.int .i64 0) 1 8 rfl Tryz.underlying39 info3 rfl (by decide) (by decide) (.slice (some ⟨gl,0,none⟩) (b0 + 1) cl) (b0 + 1) (intCells gg.lines) [.int .i64 j] (by rfl) (by simp [Act.eval]) rfl (by simp [Value.oneCell']) (by have h7:=HLVO.out;rw [HLEN.out] at h7;exact h7) HBW.out (by omega) (by omega) ?_;intro v1 wa hv1 hb1 hg1 hat1;obtain ⟨g1,cp1,hv1e,-,-⟩:=hv1.form (by omega);subst hv1e;have h2:=rs_line (i:=(j:Int)) HRS'.out HGG.out.2 HGG.out.1 hg1 (by rw [HLEN.out];exact hv1) hat1;have hown1:=own_kept_row HRS'.out.2.1 (HRS'.out.2.2.1.1 n0 _ gg HGG.out.2 HGG.out.1).2 hg1 (by decide);rw [HNN.out] at hown1;have q0:wa.frozen? ⟨g7,n0 * 4,none⟩=false:=hown1.frozenAt _;have q1:wa.cell? ⟨g7,n0 * 4,none⟩=some (.slice (some ⟨gl,0,none⟩) (b0 + 1) cl):=(by rw [hown1.cellAt (n0 * 4) (by omega)];exact (gcells_at ls S.gs n0 _ gg HGG.out.2 HGG.out.1).1);have H2:=mkA h2;obtain ⟨x9',z9'⟩:=rs_read9 h2 (by exact HST.out) HQ.out;have z9:=z9' q;have HB1:=mkA (Below.setCell (p:=⟨g7,n0 * 4,none⟩) hb1 hg7b (.slice (some ⟨g1,0,none⟩) (b0 + 1 + 1) cp1));skip;clear hv1 hb1 hg1 hat1 h2 hown1 z9'))
                        go_roundg (i - (j + 1))
                        case measure=>have:=HJ.out;omega
                        case rel =>
                          have h12:=rs_else true (b0 + 1) (by rw [← HST.out];exact H2.out)
                          rw [HQ.out] at h12
                          refine ⟨j + 1,_,by go_num,⟨by omega,rfl,HGR2.out.symm,HGD.out.1,HGD.out.2⟩,⟨_,h12⟩,⟨Below.setCell (p:=⟨g9,q,none⟩) HB1.out hg9b _⟩⟩
                      · cases hx
                    · have hgs:Lx.gstep 2 S k j=some ⟨S.gs.modify n0 fun g=>⟨g.lines ++ [(j:Int)],(g.lines.length:Int) + (if e0=true then 0 else 1),g.par,g.bch⟩,r⟩:=by unfold Lx.gstep;rw [hop,hc,HST.out];dsimp only;rw [h6];cases e0 <;> rfl
                      have h9:=HGR.out
                      rw [hgs] at h9
                      have HGR2:=mkA h9
                      have hgd:=Lx.good_step 2 S _ k j hgs HJ.out.2.2.2.1
                      have hsm:=Lx.sm_step 2 S _ k j hgs HJ.out.2.2.2.2
                      have HGD:=mkA (And.intro hgd hsm)
                      obtain ⟨q,hq⟩:∃ q,r.length=q:=⟨_,rfl⟩
                      have HQ:=mkA hq
                      obtain rfl:m8=q + 1:=by have:=HM8.out;simp only [List.length_cons] at this;omega
                      obtain ⟨e1,he1⟩:∃ e1,S.st=(n0,b0,e1) :: r:=⟨_,HST.out⟩
                      have hn0:n0 < S.gs.length:=HJ.out.2.2.2.1.lt (n0,b0,e1) (by rw [he1];exact List.mem_cons_self)
                      obtain ⟨gg,hgg⟩:∃ gg,S.gs[n0]? = some gg:=⟨_,List.getElem?_eq_getElem hn0⟩
                      have hlen:=HJ.out.2.2.2.1.len (n0,b0,e1) (by rw [he1];exact List.mem_cons_self) gg hgg
                      dsimp only at hlen
                      have hb0:b0 ≤ 100000:=by have:=(HJ.out.2.2.2.2.2 gg (List.mem_iff_getElem?.2 ⟨n0,hgg⟩)).1;omega
                      obtain ⟨lv,hlv⟩:∃ lv,ls[n0]? = some lv:=⟨_,List.getElem?_eq_getElem (by have:=HRSC.out.1;omega)⟩
                      have hlvo:=(HRSC.out.2.2.1.1 n0 lv gg hlv hgg).2
                      rw [hlen] at hlvo
                      obtain ⟨gl,cl,rfl,-,-⟩:=hlvo.form (by omega)
                      obtain ⟨g7,c7',e7,hg7b,-⟩:=HRSC.out.2.1.form (by omega)
                      simp only [Value.slice.injEq] at e7
                      obtain ⟨rfl,-,rfl⟩:=e7
                      obtain ⟨g8,c8',e8,-,-⟩:=HRSC.out.2.2.2.1.form (by rw [HST.out];simp)
                      simp only [Value.slice.injEq] at e8
                      obtain ⟨rfl,-,rfl⟩:=e8
                      obtain ⟨g9,c9',e9,hg9b,-⟩:=HRSC.out.2.2.2.2.1.form (by rw [HST.out];simp)
                      simp only [Value.slice.injEq] at e9
                      obtain ⟨rfl,-,rfl⟩:=e9
                      have hc8:q + 1 ≤ c8:=by have h7:=own_cap HRSC.out.2.2.2.1;rw [HST.out,HM8.out] at h7;exact h7
                      have hc9:q + 1 ≤ c9:=by have h7:=own_cap HRSC.out.2.2.2.2.1;rw [HST.out,HM8.out] at h7;exact h7
                      have HGG:=mkA (And.intro hgg hlv)
                      have HLEN:=mkA hlen
                      rw [HNN.out] at hn0
                      have hw9:IntKind.i64.wrap ((b0:Int) + 1 + 1)=(b0:Int) + 1 + 1:=IntWalk.i64_in _ (by omega)
                      have hw10:IntKind.i64.wrap ((b0:Int) + 1)=(b0:Int) + 1:=IntWalk.i64_in _ (by omega)
                      clear he1 hq hgg hlen hlv hlvo
                      rw [h6] at hcc
                      unfold Lx.sElif Lx.sElse at hcc
                      unfold Lx.sEndif at h6
                      clear hop hgs h9 hc hen hgd hsm
                      rcases hcc with ⟨-,-,hx⟩ | ⟨-,-,hx⟩ | ⟨h1,h2,-⟩
                      · cases hx
                      · cases hx
                      · cases e0
                        all_goals
                          go_wp2_with (first | (go_at_call 14;(refine (refKind_calls t _ HTS.out).mono ?_);rintro e w' ⟨rfl,hb⟩;rw [HK2.out];have hrs':=HRSC.out.no (grown_below (World.grownBy.refl wr none) hb);have HRS':=mkA hrs';have HBW:=mkA (HBJ.out.trans (hb.mono (by omega)));have hsw':=hb.size;have x8:=rs_read8 hrs' HST.out HQ.out;obtain ⟨x9,-⟩:=rs_read9 hrs' HST.out HQ.out;obtain ⟨x7,-,-⟩:=rs_read7 hrs' HNN.out HGG.out.2 HGG.out.1;have HLVO:=mkA (hrs'.2.2.1.1 n0 _ gg HGG.out.2 HGG.out.1).2;clear hb hrs') | (go_at_call 45;(with_reducible refine (opensr_calls k _).mono ?_);rintro e w2 ⟨rfl,rfl⟩;rw [HOP.out]) | (at_builtin;refine print_append_cells (w0:=w) (W:=w') base rfl (.tmp 115) (.tmp 117) 39 3 (.int .i64 0) 1 8 rfl Tryz.underlying39 info3 rfl (by decide) (by decide) (.slice (some ⟨gl,0,none⟩) (b0 + 1) cl) (b0 + 1) (intCells gg.lines) [.int .i64 j] (by rfl) (by simp [Act.eval]) rfl (by simp [Value.oneCell']) (by have h7:=HLVO.out;rw [HLEN.out] at h7;exact h7) HBW.out (by omega) (by omega) ?_;intro v1 wa hv1 hb1 hg1 hat1;obtain ⟨g1,cp1,hv1e,-,-⟩:=hv1.form (by omega);subst hv1e;have h2:=rs_line (i:=(j:Int)) HRS'.out HGG.out.2 HGG.out.1 hg1 (by rw [HLEN.out];exact hv1) hat1;have hown1:=own_kept_row HRS'.out.2.1 (HRS'.out.2.2.1.1 n0 _ gg HGG.out.2 HGG.out.1).2 hg1 (by decide);rw [HNN.out] at hown1;have q0:wa.frozen? ⟨g7,n0 * 4,none⟩=false:=hown1.frozenAt _;have q1:wa.cell? ⟨g7,n0 * 4,none⟩=some (.slice (some ⟨gl,0,none⟩) (b0 + 1) cl):=(by rw [hown1.cellAt (n0 * 4) (by omega)];exact (gcells_at ls S.gs n0 _ gg HGG.out.2 HGG.out.1).1);have H2:=mkA h2;obtain ⟨x9',z9'⟩:=rs_read9 h2 (by exact HST.out) HQ.out;have z9:=z9' q;have HB1:=mkA (Below.setCell (p:=⟨g7,n0 * 4,none⟩) hb1 hg7b (.slice (some ⟨g1,0,none⟩) (b0 + 1 + 1) cp1));have hls:(ls.set n0 (.slice (some ⟨g1,0,none⟩) (b0 + 1 + 1) cp1))[n0]? = some (.slice (some ⟨g1,0,none⟩) (b0 + 1 + 1) cp1):=List.getElem?_set_self (List.getElem?_eq_some_iff.1 HGG.out.2).1;have hgs2:(S.gs.modify n0 fun g=>(⟨g.lines ++ [(j:Int)],g.br,g.par,g.bch⟩:Lx.G))[n0]? = some ⟨gg.lines ++ [(j:Int)],gg.br,gg.par,gg.bch⟩:=(by rw [List.getElem?_modify,HGG.out.1];simp);obtain ⟨y0,y1,yz⟩:=rs_read7 h2 (by dsimp only;rw [List.length_modify,HNN.out]) hls hgs2;have yz1:=yz (n0 * 4 + 1);have h3r:=rs_br ((b0:Int) + 1) h2 (by dsimp only;rw [List.length_modify,HNN.out];exact hn0);have h4r:=rs_br ((b0:Int) + 1 + 1) h3r (by dsimp only;rw [List.length_modify,List.length_modify,HNN.out];exact hn0);have hgs3:((S.gs.modify n0 fun g=>(⟨g.lines ++ [(j:Int)],g.br,g.par,g.bch⟩:Lx.G)).modify n0 fun g=>(⟨g.lines,(b0:Int) + 1,g.par,g.bch⟩:Lx.G))[n0]? = some ⟨gg.lines ++ [(j:Int)],(b0:Int) + 1,gg.par,gg.bch⟩:=(by rw [List.getElem?_modify,hgs2];simp);obtain ⟨-,u1,uz⟩:=rs_read7 h3r (by dsimp only;rw [List.length_modify,List.length_modify,HNN.out]) hls hgs3;have uz1:=uz (n0 * 4 + 1);obtain ⟨x9b,-⟩:=rs_read9 h3r (by exact HST.out) HQ.out;have H3:=mkA h3r;have H4:=mkA h4r;clear hls hgs2 hgs3 h3r h4r yz uz;clear hv1 hb1 hg1 hat1 h2 hown1 z9'))
                          go_roundg (i - (j + 1))
                          case measure=>have:=HJ.out;omega
                          case rel =>
                            refine ⟨j + 1,_,by go_num,⟨by omega,rfl,HGR2.out.symm,HGD.out.1,HGD.out.2⟩,⟨?_⟩,⟨?_⟩⟩
                            · first
                              | exact ⟨_,rs_done H4.out HST.out HQ.out (by rw [modify2,modify2,modify_set _ _ _ _ HGG.out.1,modify_set _ _ _ _ HGG.out.1,HLEN.out];simp)⟩
                              | exact ⟨_,rs_done H3.out HST.out HQ.out (by rw [modify2,modify_set _ _ _ _ HGG.out.1,modify_set _ _ _ _ HGG.out.1,HLEN.out];simp)⟩
                            · first
                              | exact Below.setCell (p:=⟨g7,n0 * 4 + 1,none⟩) (Below.setCell (p:=⟨g7,n0 * 4 + 1,none⟩) HB1.out hg7b _) hg7b _
                              | exact Below.setCell (p:=⟨g7,n0 * 4 + 1,none⟩) HB1.out hg7b _
                  · have hgs:Lx.gstep 2 S k j=none:=by unfold Lx.gstep;rw [hop,hc,HST.out];dsimp only;rw [hen];rfl
                    have h9:=HGR.out
                    rw [hgs] at h9
                    have HGR2:=mkA h9
                    have he:e0=true:=by cases e0 <;> simp at hen ⊢
                    subst he
                    have h3:(k.toList == Lx.sEndif)=false:=by simpa using hen
                    obtain ⟨q,hq⟩:∃ q,r.length=q:=⟨_,rfl⟩
                    have HQ:=mkA hq
                    obtain rfl:m8=q + 1:=by have:=HM8.out;simp only [List.length_cons] at this;omega
                    obtain ⟨e1,he1⟩:∃ e1,S.st=(n0,b0,e1) :: r:=⟨_,HST.out⟩
                    have hn0:n0 < S.gs.length:=HJ.out.2.2.2.1.lt (n0,b0,e1) (by rw [he1];exact List.mem_cons_self)
                    obtain ⟨gg,hgg⟩:∃ gg,S.gs[n0]? = some gg:=⟨_,List.getElem?_eq_getElem hn0⟩
                    have hlen:=HJ.out.2.2.2.1.len (n0,b0,e1) (by rw [he1];exact List.mem_cons_self) gg hgg
                    dsimp only at hlen
                    have hb0:b0 ≤ 100000:=by have:=(HJ.out.2.2.2.2.2 gg (List.mem_iff_getElem?.2 ⟨n0,hgg⟩)).1;omega
                    obtain ⟨lv,hlv⟩:∃ lv,ls[n0]? = some lv:=⟨_,List.getElem?_eq_getElem (by have:=HRSC.out.1;omega)⟩
                    have hlvo:=(HRSC.out.2.2.1.1 n0 lv gg hlv hgg).2
                    rw [hlen] at hlvo
                    obtain ⟨gl,cl,rfl,-,-⟩:=hlvo.form (by omega)
                    obtain ⟨g7,c7',e7,hg7b,-⟩:=HRSC.out.2.1.form (by omega)
                    simp only [Value.slice.injEq] at e7
                    obtain ⟨rfl,-,rfl⟩:=e7
                    obtain ⟨g8,c8',e8,-,-⟩:=HRSC.out.2.2.2.1.form (by rw [HST.out];simp)
                    simp only [Value.slice.injEq] at e8
                    obtain ⟨rfl,-,rfl⟩:=e8
                    obtain ⟨g9,c9',e9,hg9b,-⟩:=HRSC.out.2.2.2.2.1.form (by rw [HST.out];simp)
                    simp only [Value.slice.injEq] at e9
                    obtain ⟨rfl,-,rfl⟩:=e9
                    have hc8:q + 1 ≤ c8:=by have h7:=own_cap HRSC.out.2.2.2.1;rw [HST.out,HM8.out] at h7;exact h7
                    have hc9:q + 1 ≤ c9:=by have h7:=own_cap HRSC.out.2.2.2.2.1;rw [HST.out,HM8.out] at h7;exact h7
                    have HGG:=mkA (And.intro hgg hlv)
                    have HLEN:=mkA hlen
                    rw [HNN.out] at hn0
                    have hw9:IntKind.i64.wrap ((b0:Int) + 1 + 1)=(b0:Int) + 1 + 1:=IntWalk.i64_in _ (by omega)
                    have hw10:IntKind.i64.wrap ((b0:Int) + 1)=(b0:Int) + 1:=IntWalk.i64_in _ (by omega)
                    clear he1 hq hgg hlen hlv hlvo
                    have hR1:R=([],30,(j:Int)):=by rw [HR0.out,HGR2.out]
                    subst hR1
                    rw [h3] at hcc
                    unfold Lx.sElif Lx.sElse at hcc
                    unfold Lx.sEndif at h3
                    clear hop hgs h9 hc hen
                    rcases hcc with ⟨h1,h2,-⟩ | ⟨h1,h2,-⟩ | ⟨-,-,hx⟩
                    · go_wp2_with (first | (go_at_call 14;(refine (refKind_calls t _ HTS.out).mono ?_);rintro e w' ⟨rfl,hb⟩;rw [HK2.out];have hrs':=HRSC.out.no (grown_below (World.grownBy.refl wr none) hb);have HRS':=mkA hrs';have HBW:=mkA (HBJ.out.trans (hb.mono (by omega)));have hsw':=hb.size;have x8:=rs_read8 hrs' HST.out HQ.out;obtain ⟨x9,-⟩:=rs_read9 hrs' HST.out HQ.out;obtain ⟨x7,-,-⟩:=rs_read7 hrs' HNN.out HGG.out.2 HGG.out.1;have HLVO:=mkA (hrs'.2.2.1.1 n0 _ gg HGG.out.2 HGG.out.1).2;clear hb hrs') | (go_at_call 45;(with_reducible refine (opensr_calls k _).mono ?_);rintro e w2 ⟨rfl,rfl⟩;rw [HOP.out]))
                      go_ret3
                      exact ⟨_,rfl,grp_nil _ _ _,HBW.out⟩
                    · go_wp2_with (first | (go_at_call 14;(refine (refKind_calls t _ HTS.out).mono ?_);rintro e w' ⟨rfl,hb⟩;rw [HK2.out];have hrs':=HRSC.out.no (grown_below (World.grownBy.refl wr none) hb);have HRS':=mkA hrs';have HBW:=mkA (HBJ.out.trans (hb.mono (by omega)));have hsw':=hb.size;have x8:=rs_read8 hrs' HST.out HQ.out;obtain ⟨x9,-⟩:=rs_read9 hrs' HST.out HQ.out;obtain ⟨x7,-,-⟩:=rs_read7 hrs' HNN.out HGG.out.2 HGG.out.1;have HLVO:=mkA (hrs'.2.2.1.1 n0 _ gg HGG.out.2 HGG.out.1).2;clear hb hrs') | (go_at_call 45;(with_reducible refine (opensr_calls k _).mono ?_);rintro e w2 ⟨rfl,rfl⟩;rw [HOP.out]))
                      go_ret3
                      exact ⟨_,rfl,grp_nil _ _ _,HBW.out⟩
                    · cases hx
            · rcases st with _ | ⟨⟨n0,b0,e0⟩,r⟩
              · have hgs:Lx.gstep 2 S k j=some ⟨S.gs ++ [⟨[(j:Int)],2,-1,0⟩],[(S.gs.length,0,false)]⟩:=by unfold Lx.gstep;rw [if_pos hop,HST.out]
                have h9:=HGR.out
                rw [hgs] at h9
                have HGR2:=mkA h9
                have hgd:=Lx.good_step 2 S _ k j hgs HJ.out.2.2.2.1
                have hsm:=Lx.sm_step 2 S _ k j hgs HJ.out.2.2.2.2
                have HGD:=mkA (And.intro hgd hsm)
                obtain rfl:m8=0:=by have:=HM8.out;simpa using this.symm
                clear hop hgs h9 hgd hsm
                go_wp2_with (first | (go_at_call 14;(refine (refKind_calls t _ HTS.out).mono ?_);rintro e w' ⟨rfl,hb⟩;rw [HK2.out];have hrs':=HRSC.out.no (grown_below (World.grownBy.refl wr none) hb);have HRS':=mkA hrs';have HBW:=mkA (HBJ.out.trans (hb.mono (by omega)));have hsw':=hb.size;skip;obtain ⟨Wg,hWg⟩:∃ Wg,((w'.alloc (.cells #[.int .i64 j] 3)).alloc (.cells #[.slice (some ⟨w'.heap.size,0,none⟩) 1 1,.int .i64 2,.int .i64 (-1),.int .i64 (0)] 42))=Wg:=⟨_,rfl⟩;have hR0:Wg.heap[w'.heap.size]? = some (.cells #[.int .i64 j] 3 (0,0)):=(by rw [← hWg];exact blk_alloc (blk_new_at _ _ _ rfl) _);have hG0:Wg.heap[w'.heap.size + 1]? = some (.cells #[.slice (some ⟨w'.heap.size,0,none⟩) 1 1,.int .i64 2,.int .i64 (-1),.int .i64 (0)] 42 (0,0)):=(by rw [← hWg];exact blk_new_at _ _ _ (by simp));have hgw:w'.grownBy Wg none:=(by rw [← hWg];exact (World.grownBy_alloc _ _ none).trans (World.grownBy_alloc _ _ none));have hszg:Wg.heap.size=w'.heap.size + 1 + 1:=(by rw [← hWg];simp [World.setCell]);have HRG:=mkA (hrs'.no hgw);have HBG:=mkA (HBW.out.grown hgw (by omega) (fun k hk=>by cases hk));have HWG:=mkA hWg;have HSZG:=mkA hszg;have HR0:=mkA hR0;have HG0:=mkA hG0;clear hWg hR0 hG0 hgw;clear hb hrs') | (go_at_call 45;(with_reducible refine (opensr_calls k _).mono ?_);rintro e w2 ⟨rfl,rfl⟩;rw [HOP.out]) | (at_builtin;rw [HWG.out];refine print_append_cells (w0:=w) (W:=Wg) base rfl (.tmp 69) (.tmp 72) 39 3 (.int .i64 0) 1 8 rfl Tryz.underlying39 info3 rfl (by decide) (by decide) _ _ (intCells (Lx.nums [])) [.int .i64 N] (by rfl) (by simp [Act.eval,HSZG.out]) rfl (by simp [Value.oneCell']) (by have h7:=HRG.out.2.2.2.1;rw [HST.out,HM8.out] at h7;exact h7) HBG.out (by omega) (by omega) ?_;intro v8 wa hv8 hb8 hg8 hat8;have ho9a:=own_kept_row HRG.out.2.2.2.2.1 HRG.out.2.2.2.1 hg8 (by decide);have ho7a:=own_kept_row HRG.out.2.1 HRG.out.2.2.2.1 hg8 (by decide);have hGa:=(hg8.block _ (blk_lt HG0.out) (own_ne HRG.out.2.2.2.1 HG0.out (by decide))).trans HG0.out;have HV8:=mkA hv8;have HB8:=mkA hb8;have HGA:=mkA (And.intro hg8 hat8);have HO9A:=mkA ho9a;have HO7A:=mkA ho7a;have HGA2:=mkA hGa;have hsza:=hg8.size;clear hv8 hb8 hg8 hat8 ho9a ho7a hGa) | (at_builtin;refine print_append_cells (w0:=w) (W:=wa) base rfl (.tmp 74) (.tmp 75) 83 4 (.bool false) 1 1 rfl Tryz.underlying83 info4 rfl (by decide) (by decide) _ _ (boolCells (Lx.elses [])) [.bool false] (by rfl) (by simp [Act.eval]) rfl (by simp [Value.oneCell']) (by have h7:=HO9A.out;rw [HST.out,HM8.out] at h7;exact h7) HB8.out (by omega) (by omega) ?_;intro v9 wb hv9 hb9 hg9 hat9;have ho7b:=own_kept_row HO7A.out HO9A.out hg9 (by decide);have hGb:=(hg9.block _ (blk_lt HGA2.out) (own_ne HO9A.out HGA2.out (by decide))).trans HGA2.out;have HV9:=mkA hv9;have HB9:=mkA hb9;have HG9:=mkA hg9;have HO7B:=mkA ho7b;have t0:wb.cell? ⟨w'.heap.size + 1,0,none⟩=some (.slice (some ⟨w'.heap.size,0,none⟩) 1 1):=(by rw [blk_cell hGb];rfl);have t1:wb.cell? ⟨w'.heap.size + 1,1,none⟩=some (.int .i64 2):=(by rw [blk_cell hGb];rfl);have t2:wb.cell? ⟨w'.heap.size + 1,2,none⟩=some (.int .i64 (-1)):=(by rw [blk_cell hGb];rfl);have t3:wb.cell? ⟨w'.heap.size + 1,3,none⟩=some (.int .i64 (0)):=(by rw [blk_cell hGb];rfl);have hszb:=hg9.size;clear hv9 hb9 hg9 hat9 ho7b hGb) | (at_builtin;refine print_append_cells (w0:=w) (W:=wb) base rfl (.tmp 77) (.tmp 79) 35 42 _ 4 48 rfl Tryz.underlying35 info42 rfl (by decide) (by decide) _ _ (gcells ls S.gs) [.slice (some ⟨w'.heap.size,0,none⟩) 1 1,.int .i64 2,.int .i64 (-1),.int .i64 (0)] (by rfl) (by simp [Act.eval]) rfl (by simp [Value.oneCell']) (by have h7:=HO7B.out;rw [HNN.out] at h7;exact h7) HB9.out (by omega) (by omega) ?_;intro v7 wc hv7 hb7 hg7 hat7;have HV7:=mkA hv7;have HB7:=mkA hb7;have HG7:=mkA hg7;clear hv7 hb7 hg7 hat7))
                go_roundg (i - (j + 1))
                case measure=>have:=HJ.out;omega
                case rel =>
                  have hpush:=rs_push (S:=S) HRG.out (by omega) HR0.out (fun a l hl e=>by
                    have hal:a < S.gs.length:=by rw [← HRG.out.1];exact (List.getElem?_eq_some_iff.1 hl).1
                    have:=own_lt (HRS'.out.2.2.1.1 a l _ hl (List.getElem?_eq_getElem hal)).2 _ e
                    omega) (fun e=>by have:=own_lt HRS'.out.2.2.2.1 _ e;omega) (by rw [HST.out,HNN.out];have h7:=HV8.out;rw [← HM8.out] at h7;exact h7) HGA.out.1 HGA.out.2 (by rw [HST.out];have h7:=HV9.out;rw [← HM8.out] at h7;exact h7) HG9.out (by rw [HNN.out];exact HV7.out) HG7.out
                  exact ⟨j + 1,_,by go_num,⟨by omega,rfl,HGR2.out.symm,HGD.out.1,HGD.out.2⟩,⟨by rw [← HST.out] at *;exact hpush⟩,⟨HB7.out⟩⟩
              · have hgs:Lx.gstep 2 S k j=some ⟨S.gs ++ [⟨[(j:Int)],2,n0,b0⟩],(S.gs.length,0,false) :: S.st⟩:=by unfold Lx.gstep;rw [if_pos hop,HST.out]
                have h9:=HGR.out
                rw [hgs] at h9
                have HGR2:=mkA h9
                have hgd:=Lx.good_step 2 S _ k j hgs HJ.out.2.2.2.1
                have hsm:=Lx.sm_step 2 S _ k j hgs HJ.out.2.2.2.2
                have HGD:=mkA (And.intro hgd hsm)
                obtain ⟨q,hq⟩:∃ q,r.length=q:=⟨_,rfl⟩
                have HQ:=mkA hq
                obtain rfl:m8=q + 1:=by have:=HM8.out;simp only [List.length_cons] at this;omega
                have hn0:n0 < S.gs.length:=HJ.out.2.2.2.1.lt (n0,b0,e0) (by rw [HST.out];exact List.mem_cons_self)
                obtain ⟨gg,hgg⟩:∃ gg,S.gs[n0]? = some gg:=⟨_,List.getElem?_eq_getElem hn0⟩
                have hlen:=HJ.out.2.2.2.1.len (n0,b0,e0) (by rw [HST.out];exact List.mem_cons_self) gg hgg
                dsimp only at hlen
                have hb0:b0 ≤ 100000:=by have:=(HJ.out.2.2.2.2.2 gg (List.mem_iff_getElem?.2 ⟨n0,hgg⟩)).1;omega
                obtain ⟨lv,hlv⟩:∃ lv,ls[n0]? = some lv:=⟨_,List.getElem?_eq_getElem (by have:=HRSC.out.1;omega)⟩
                have hlvo:=(HRSC.out.2.2.1.1 n0 lv gg hlv hgg).2
                rw [hlen] at hlvo
                obtain ⟨gl,cl,rfl,-,-⟩:=hlvo.form (by omega)
                obtain ⟨g7,c7',e7,-,-⟩:=HRSC.out.2.1.form (by omega)
                simp only [Value.slice.injEq] at e7
                obtain ⟨rfl,-,rfl⟩:=e7
                obtain ⟨g8,c8',e8,-,-⟩:=HRSC.out.2.2.2.1.form (by rw [HST.out];simp)
                simp only [Value.slice.injEq] at e8
                obtain ⟨rfl,-,rfl⟩:=e8
                have HGG:=mkA (And.intro hgg hlv)
                rw [HNN.out] at hn0
                clear hop hgs h9 hgd hsm hq hgg hlen hlv hlvo
                go_wp2_with (first | (go_at_call 14;(refine (refKind_calls t _ HTS.out).mono ?_);rintro e w' ⟨rfl,hb⟩;rw [HK2.out];have hrs':=HRSC.out.no (grown_below (World.grownBy.refl wr none) hb);have HRS':=mkA hrs';have HBW:=mkA (HBJ.out.trans (hb.mono (by omega)));have hsw':=hb.size;have ho8':=hrs'.2.2.2.1;have ho7':=hrs'.2.1;have y8:=own_lt ho8' g8 rfl;have y7:=own_lt ho7' g7 rfl;have z8:g8 ≠ w'.heap.size + 1:=(by omega);have z7:g7 ≠ w'.heap.size + 1:=(by omega);have x8:w'.cell? ⟨g8,q,none⟩=some (.int .i64 n0):=(by rw [HST.out,HM8.out] at ho8';rw [ho8'.cellAt q (by omega),Lx.nums_cons,intCells_snoc,List.getElem?_append_right (by unfold intCells;rw [List.length_map,Lx.nums_len,HQ.out];exact Nat.le_refl _)];unfold intCells;rw [List.length_map,Lx.nums_len,HQ.out,Nat.sub_self];rfl);have x7:w'.cell? ⟨g7,n0 * 4,none⟩=some (.slice (some ⟨gl,0,none⟩) (b0 + 1) cl):=(by rw [HNN.out] at ho7';rw [ho7'.cellAt (n0 * 4) (by omega)];exact (gcells_at ls S.gs n0 _ gg HGG.out.2 HGG.out.1).1);clear ho8' ho7';obtain ⟨Wg,hWg⟩:∃ Wg,((w'.alloc (.cells #[.int .i64 j] 3)).alloc (.cells #[.slice (some ⟨w'.heap.size,0,none⟩) 1 1,.int .i64 2,.int .i64 (n0),.int .i64 (b0)] 42))=Wg:=⟨_,rfl⟩;have hR0:Wg.heap[w'.heap.size]? = some (.cells #[.int .i64 j] 3 (0,0)):=(by rw [← hWg];exact blk_alloc (blk_new_at _ _ _ rfl) _);have hG0:Wg.heap[w'.heap.size + 1]? = some (.cells #[.slice (some ⟨w'.heap.size,0,none⟩) 1 1,.int .i64 2,.int .i64 (n0),.int .i64 (b0)] 42 (0,0)):=(by rw [← hWg];exact blk_new_at _ _ _ (by simp));have hgw:w'.grownBy Wg none:=(by rw [← hWg];exact (World.grownBy_alloc _ _ none).trans (World.grownBy_alloc _ _ none));have hszg:Wg.heap.size=w'.heap.size + 1 + 1:=(by rw [← hWg];simp [World.setCell]);have HRG:=mkA (hrs'.no hgw);have HBG:=mkA (HBW.out.grown hgw (by omega) (fun k hk=>by cases hk));have HWG:=mkA hWg;have HSZG:=mkA hszg;have HR0:=mkA hR0;have HG0:=mkA hG0;clear hWg hR0 hG0 hgw;clear hb hrs') | (go_at_call 45;(with_reducible refine (opensr_calls k _).mono ?_);rintro e w2 ⟨rfl,rfl⟩;rw [HOP.out]) | (at_builtin;rw [HWG.out];refine print_append_cells (w0:=w) (W:=Wg) base rfl (.tmp 69) (.tmp 72) 39 3 (.int .i64 0) 1 8 rfl Tryz.underlying39 info3 rfl (by decide) (by decide) _ _ (intCells (Lx.nums ((n0,b0,e0) :: r))) [.int .i64 N] (by rfl) (by simp [Act.eval,HSZG.out]) rfl (by simp [Value.oneCell']) (by have h7:=HRG.out.2.2.2.1;rw [HST.out,HM8.out] at h7;exact h7) HBG.out (by omega) (by omega) ?_;intro v8 wa hv8 hb8 hg8 hat8;have ho9a:=own_kept_row HRG.out.2.2.2.2.1 HRG.out.2.2.2.1 hg8 (by decide);have ho7a:=own_kept_row HRG.out.2.1 HRG.out.2.2.2.1 hg8 (by decide);have hGa:=(hg8.block _ (blk_lt HG0.out) (own_ne HRG.out.2.2.2.1 HG0.out (by decide))).trans HG0.out;have HV8:=mkA hv8;have HB8:=mkA hb8;have HGA:=mkA (And.intro hg8 hat8);have HO9A:=mkA ho9a;have HO7A:=mkA ho7a;have HGA2:=mkA hGa;have hsza:=hg8.size;clear hv8 hb8 hg8 hat8 ho9a ho7a hGa) | (at_builtin;refine print_append_cells (w0:=w) (W:=wa) base rfl (.tmp 74) (.tmp 75) 83 4 (.bool false) 1 1 rfl Tryz.underlying83 info4 rfl (by decide) (by decide) _ _ (boolCells (Lx.elses ((n0,b0,e0) :: r))) [.bool false] (by rfl) (by simp [Act.eval]) rfl (by simp [Value.oneCell']) (by have h7:=HO9A.out;rw [HST.out,HM8.out] at h7;exact h7) HB8.out (by omega) (by omega) ?_;intro v9 wb hv9 hb9 hg9 hat9;have ho7b:=own_kept_row HO7A.out HO9A.out hg9 (by decide);have hGb:=(hg9.block _ (blk_lt HGA2.out) (own_ne HO9A.out HGA2.out (by decide))).trans HGA2.out;have HV9:=mkA hv9;have HB9:=mkA hb9;have HG9:=mkA hg9;have HO7B:=mkA ho7b;have t0:wb.cell? ⟨w'.heap.size + 1,0,none⟩=some (.slice (some ⟨w'.heap.size,0,none⟩) 1 1):=(by rw [blk_cell hGb];rfl);have t1:wb.cell? ⟨w'.heap.size + 1,1,none⟩=some (.int .i64 2):=(by rw [blk_cell hGb];rfl);have t2:wb.cell? ⟨w'.heap.size + 1,2,none⟩=some (.int .i64 (n0)):=(by rw [blk_cell hGb];rfl);have t3:wb.cell? ⟨w'.heap.size + 1,3,none⟩=some (.int .i64 (b0)):=(by rw [blk_cell hGb];rfl);have hszb:=hg9.size;clear hv9 hb9 hg9 hat9 ho7b hGb) | (at_builtin;refine print_append_cells (w0:=w) (W:=wb) base rfl (.tmp 77) (.tmp 79) 35 42 _ 4 48 rfl Tryz.underlying35 info42 rfl (by decide) (by decide) _ _ (gcells ls S.gs) [.slice (some ⟨w'.heap.size,0,none⟩) 1 1,.int .i64 2,.int .i64 (n0),.int .i64 (b0)] (by rfl) (by simp [Act.eval]) rfl (by simp [Value.oneCell']) (by have h7:=HO7B.out;rw [HNN.out] at h7;exact h7) HB9.out (by omega) (by omega) ?_;intro v7 wc hv7 hb7 hg7 hat7;have HV7:=mkA hv7;have HB7:=mkA hb7;have HG7:=mkA hg7;clear hv7 hb7 hg7 hat7))
                go_roundg (i - (j + 1))
                case measure=>have:=HJ.out;omega
                case rel =>
                  have hpush:=rs_push (S:=S) HRG.out (by omega) HR0.out (fun a l hl e=>by
                    have hal:a < S.gs.length:=by rw [← HRG.out.1];exact (List.getElem?_eq_some_iff.1 hl).1
                    have:=own_lt (HRS'.out.2.2.1.1 a l _ hl (List.getElem?_eq_getElem hal)).2 _ e
                    omega) (fun e=>by have:=own_lt HRS'.out.2.2.2.1 _ e;omega) (by rw [HST.out,HNN.out];have h7:=HV8.out;rw [← HM8.out] at h7;exact h7) HGA.out.1 HGA.out.2 (by rw [HST.out];have h7:=HV9.out;rw [← HM8.out] at h7;exact h7) HG9.out (by rw [HNN.out];exact HV7.out) HG7.out
                  exact ⟨j + 1,_,by go_num,⟨by omega,rfl,HGR2.out.symm,HGD.out.1,HGD.out.2⟩,⟨by rw [← HST.out] at *;exact hpush⟩,⟨HB7.out⟩⟩
          · have hji:j=i:=by omega
            have hR1:R=(if S.st.isEmpty=true then (S.gs,0,0) else ([],30,Lx.firstLine S)):=by
              have h1:=HJ.out.2.2.1
              rw [List.drop_eq_nil_of_le (by have:=HKN.out;omega)] at h1
              rw [HR0.out,← h1];rfl
            subst hji
            obtain ⟨ls,hrs⟩:=HRS.out
            have HRSC:=mkA hrs
            obtain ⟨A8,c8,rfl⟩:=own_slice hrs.2.2.2.1
            obtain ⟨N,hN⟩:∃ N,S.gs.length=N:=⟨_,rfl⟩
            have hN1:N ≤ 100000:=by have:=HJ.out.2.2.2.2.1;omega
            have HNN:=mkA hN
            rcases hst:S.st with _ | ⟨⟨n0,b0,e0⟩,r⟩
            · rw [hst] at hR1 hrs HRSC
              rw [List.isEmpty_nil,if_pos rfl] at hR1
              subst hR1
              have hgrp:Grp wr base 42 _ S.gs:=⟨ls,hrs.1,hrs.2.1,hrs.2.2.1⟩
              have HGRP:=mkA hgrp
              clear hgrp
              obtain ⟨A7,c7,rfl⟩:=own_slice hrs.2.1
              clear hst hrs hN
              go_wp2_with fail
              go_ret3
              exact ⟨_,rfl,HGRP.out,HBJ.out⟩
            · have HST:=mkA hst
              obtain ⟨q,hq⟩:∃ q,r.length=q:=⟨_,rfl⟩
              have HQ:=mkA hq
              rw [hst] at HRSC
              rw [List.length_cons,hq] at HRSC ⊢
              rw [hst,List.isEmpty_cons,if_neg Bool.false_ne_true] at hR1
              have hn0:n0 < S.gs.length:=HJ.out.2.2.2.1.lt (n0,b0,e0) (by rw [hst];exact List.mem_cons_self)
              obtain ⟨g,hg⟩:∃ g,S.gs[n0]? = some g:=⟨_,List.getElem?_eq_getElem hn0⟩
              have hfirst:Lx.firstLine S=g.lines.headD 0:=by unfold Lx.firstLine;rw [hst];dsimp only;rw [hg]
              rw [hfirst] at hR1
              have hstl:=st_len S.st N HJ.out.2.2.2.1.desc (fun p hp=>by have:=HJ.out.2.2.2.1.lt p hp;rw [hN] at this;exact this)
              rw [hst,List.length_cons,hq] at hstl
              obtain ⟨lv,hlv⟩:∃ lv,ls[n0]? = some lv:=⟨_,List.getElem?_eq_getElem (by have:=hrs.1;omega)⟩
              obtain ⟨hgne,hlvo⟩:=hrs.2.2.1.1 n0 lv g hlv hg
              obtain ⟨x,xs,hx⟩:∃ x xs,g.lines=x :: xs:=List.exists_cons_of_ne_nil hgne
              rw [hx] at hlvo hR1
              have hR2:R=([],30,x):=hR1
              subst hR2
              clear hR1
              obtain ⟨gl,cl,rfl,hgl1,hgl2⟩:=hlvo.form (by simp)
              obtain ⟨gb,c0,rfl,hgb1,hgb2⟩:=hrs.2.1.form (by omega)
              obtain ⟨g8,c8',e8,-,-⟩:=HRSC.out.2.2.2.1.form (by rw [hst];simp)
              simp only [Value.slice.injEq] at e8
              obtain ⟨rfl,-,rfl⟩:=e8
              have l0:wr.cell? ⟨gl,0,none⟩=some (.int .i64 x):=by rw [hlvo.cellAt 0 (by simp)];rfl
              rw [hN] at HRSC ⊢
              obtain ⟨x7,-,-⟩:=rs_read7 HRSC.out hN hlv hg
              have x8:=rs_read8 HRSC.out hst hq
              rw [hN] at hn0
              clear hrs hst hq hN hg hfirst hlv hgne hlvo hx
              go_wp2_with fail
              go_quiet (fail)
              go_wp2_with fail
              go_ret3
              exact ⟨_,rfl,grp_nil _ _ _,HBJ.out.grown (grown_drewN (World.grownBy.refl _ none) _) (by have h1:=HBJ.out.size;have h2:=HBASE.out;omega) (fun k hk=>by cases hk)⟩
namespace Lx
theorem shut_kinds (L:List Tok) (g:G) (hS:Shut (L.map kindOf) g) (t:Tok) (x:Int) (m:Nat) (hm:g.lines.length=m + 1) (hx:x ∈ g.lines.take m) (ht:L[x.toNat]? = some t):((kindOf t).toList == [101,108,115,101])=true ∨ isExpr (kindOf t)=true ∨ isDfn (kindOf t)=true:=by
  obtain ⟨y,c,z,h1,h2,h3,hbr,hl⟩:=hS
  have hk:=kAt_map L x t ht
  have hc:∀ u ∈ y :: c,u=x → isExpr (kindOf t)=true ∨ isDfn (kindOf t)=true:=by
    intro u hu e
    subst e
    rcases List.mem_cons.1 hu with rfl | hu
    · rw [hk] at h1;exact opens_kind h1
    · have:=h2 u hu
      rw [hk] at this
      left
      unfold isExpr
      unfold sElif at this
      rw [this,Bool.or_true]
  rcases hl with hl | ⟨u,hu,hl⟩
  · have e:g.lines.take m=y :: c:=by
      have:m=(y :: c).length:=by rw [hl] at hm;simp at hm ⊢;omega
      rw [hl,this,List.take_left]
    rw [e] at hx
    exact .inr (hc x hx rfl)
  · have e:g.lines.take m=y :: c ++ [u]:=by
      have:m=(y :: c ++ [u]).length:=by rw [hl] at hm;simp at hm ⊢;omega
      rw [hl,show y :: c ++ [u,z]=(y :: c ++ [u]) ++ [z] by simp,this,List.take_left]
    rw [e] at hx
    rcases List.mem_append.1 hx with hx | hx
    · exact .inr (hc x hx rfl)
    · rw [List.mem_singleton.1 hx] at hk
      rw [hk] at hu
      exact .inl hu
theorem shut_br {ks:List ByteArray} {g:G} (hS:Shut ks g) (h:g.lines.length ≤ 100000):∃ d:Nat,g.br=(d:Int) + 1∧d ≤ 100000:=by
  obtain ⟨y,c,z,-,-,-,hbr,hl⟩:=hS
  refine ⟨c.length + 1,by omega,?_⟩
  rcases hl with hl | ⟨u,-,hl⟩ <;> rw [hl] at h <;> simp at h <;> omega
theorem toksOf_at (L:List Tok) (xs:List Int) (hin:∀ x ∈ xs,0 ≤ x∧x < (L.length:Int)) (j:Nat) (x:Int) (t:Tok) (hx:xs[j]? = some x) (ht:L[x.toNat]? = some t):(toksOf L xs)[j]? = some t:=by
  have hj:=(List.getElem?_eq_some_iff.1 hx).1
  have h1:=toksOf_len L (xs.take j) (fun y hy=>hin y (List.mem_of_mem_take hy))
  rw [List.length_take,Nat.min_eq_left (by omega)] at h1
  have e:xs=xs.take j ++ x :: xs.drop (j + 1):=by
    rw [← drop_at xs j x hx,List.take_append_drop]
  rw [e]
  have e2:toksOf L (xs.take j ++ x :: xs.drop (j + 1))=toksOf L (xs.take j) ++ t :: toksOf L (xs.drop (j + 1)):=by
    unfold toksOf
    rw [List.filterMap_append,List.filterMap_cons,ht]
  rw [e2,List.getElem?_append_right (by omega),h1,Nat.sub_self]
  rfl
end Lx
end Go.Proofs.YtjnafjgonoficaaGreatDoor
