/-
  A text's places against its groups' lines, plainly: a token that is no directive is in just the branches that the lines say. No program in sight. Conditions: none.
  What the reference's View and First come to. Conditions: the tokens and the choice lie in memory; the tokens are short.
  What HasInt and cond.Of come to where the groups are as said, and where a text's end lies. Conditions: the numbers, the tokens lie in memory; the tokens are short; the library's variables are as their text lays them.
  Refusals: names, dead branches and a token's branches where the groups are an error. Conditions: the tokens lie in memory; the library's variables are as their text lays them.
  A text's places against its groups' lines, plainly, of every token: a directive too is in just the branches that the lines say. No program in sight. Conditions: none.
  What the reference says of one token's branches. Conditions: the tokens lie in memory.
-/
import Derived.Test.YtjnafjgonoficaaGreatDoorF09
import Derived.Test.YtjnafjgonoficaaGreatDoorF21
import Derived.Test.YtjnafjgonoficaaGreatDoorF20
import Derived.Test.YtjnafjgonoficaaGreatDoorF07
set_option linter.unusedVariables false
set_option linter.unusedSimpArgs false
namespace Go.Proofs.YtjnafjgonoficaaGreatDoor
open Go.RowKit Go.Proofs.YtjnafjgonoficaaGreatDoorW.PrintWords
namespace Lx
def withinL:List Int → Int → Int → Int
  | a :: b :: r,i,k=>if a < i∧i < b then k else withinL (b :: r) i (k + 1)
  | _,_,_ => -1
theorem within_low:∀ (A:List Int) (i k:Int),(∀ x ∈ A,x < i) → withinL A i k = -1
  | [],i,k,_=>rfl
  | [a],i,k,_=>rfl
  | a :: b :: r,i,k,h=>by
    unfold withinL
    have hb:=h b (by simp)
    rw [if_neg (by omega)]
    exact within_low (b :: r) i (k + 1) fun x hx=>h x (List.mem_cons_of_mem _ hx)
theorem within_high:∀ (A:List Int) (i k:Int),(∀ x ∈ A,i < x) → withinL A i k = -1
  | [],i,k,_=>rfl
  | [a],i,k,_=>rfl
  | a :: b :: r,i,k,h=>by
    unfold withinL
    have hb:=h a (by simp)
    rw [if_neg (by omega)]
    exact within_high (b :: r) i (k + 1) fun x hx=>h x (List.mem_cons_of_mem _ hx)
theorem within_in (B:List Int) (i:Int) (hB:B ≠ []) (hb:∀ x ∈ B,i < x):∀ (A:List Int) (k:Int),A ≠ [] → (∀ x ∈ A,x < i) → withinL (A ++ B) i k=k + (A.length:Int) - 1
  | [],k,h,_=>absurd rfl h
  | [a],k,_,h=>by
    obtain ⟨b,r,rfl⟩:=List.exists_cons_of_ne_nil hB
    have h1:=h a (by simp)
    have h2:=hb b (by simp)
    simp only [List.singleton_append,withinL,List.length_singleton]
    rw [if_pos ⟨h1,h2⟩];omega
  | a :: a2 :: r,k,_,h=>by
    have h2:=h a2 (by simp)
    simp only [List.cons_append,withinL]
    rw [if_neg (by omega),← List.cons_append,within_in B i hB hb (a2 :: r) (k + 1) (by simp) fun x hx=>h x (List.mem_cons_of_mem _ hx)]
    simp only [List.length_cons];omega
theorem headD_mem {l:List Int} (h:l ≠ []):l.headD 0 ∈ l:=by
  cases l with
  | nil=>exact absurd rfl h
  | cons a r=>simp
theorem getLastD_mem {l:List Int} (h:l ≠ []):l.getLastD 0 ∈ l:=by
  rw [List.getLastD_eq_getLast?,List.getLast?_eq_some_getLast h]
  exact List.getLast_mem h
theorem getLastD_app (A r:List Int) (h:r ≠ []):(A ++ r).getLastD 0=r.getLastD 0:=by
  rw [List.getLastD_eq_getLast?,List.getLastD_eq_getLast?,List.getLast?_append,List.getLast?_eq_some_getLast h];rfl
theorem gstep_cases (c:Int) (S T:GS) (k:ByteArray) (i:Nat) (h:gstep c S k i=some T) :
    (opens k=true∧(∃ g:G,g.lines=[(i:Int)]∧T.gs=S.gs ++ [g])∧T.st=(S.gs.length,0,false) :: S.st) ∨
    (opens k=false∧closes k=true∧∃ (n b:Nat) (e:Bool) (r:List (Nat × Nat × Bool)) (F:G → G),S.st=(n,b,e) :: r∧(∀ g:G,(F g).lines=g.lines ++ [(i:Int)])∧T.gs=S.gs.modify n F ∧
      ((T.st=r∧∀ g:G,g.lines ≠ [] → 0 < (F g).br) ∨ ∃ e',T.st=(n,b + 1,e') :: r)) ∨
    (opens k=false∧closes k=false∧T=S):=by
  unfold gstep at h
  cases ho:opens k
  · rw [ho,if_neg Bool.false_ne_true] at h
    cases hc:closes k
    · rw [hc,if_neg Bool.false_ne_true] at h
      cases h;exact .inr (.inr ⟨rfl,rfl,rfl⟩)
    · rw [hc,if_pos rfl] at h
      rcases hs:S.st with _ | ⟨⟨n,b,e⟩,r⟩
      · rw [hs] at h;cases h
      · rw [hs] at h
        dsimp only at h
        split at h
        · cases h
        · split at h
          · cases h
            refine .inr (.inl ⟨rfl,rfl,n,b,e,r,_,rfl,fun g=>rfl,rfl,.inl ⟨rfl,fun g hg => ?_⟩⟩)
            have h0:0 < g.lines.length:=List.length_pos_iff.2 hg
            dsimp only
            split <;> omega
          · cases h
            exact .inr (.inl ⟨rfl,rfl,n,b,e,r,_,rfl,fun g=>rfl,rfl,.inr ⟨_,rfl⟩⟩)
  · rw [ho,if_pos rfl] at h
    rcases hs:S.st with _ | ⟨⟨n,b,e⟩,r⟩
    · rw [hs] at h;cases h
      exact .inl ⟨rfl,⟨_,rfl,rfl⟩,rfl⟩
    · rw [hs] at h;cases h
      exact .inl ⟨rfl,⟨_,rfl,rfl⟩,rfl⟩
structure Ext (S:GS) (gs:List G) (i:Nat):Prop where
  len:S.gs.length ≤ gs.length
  ext:∀ (j:Nat) (g h:G),S.gs[j]? = some g → gs[j]? = some h → ∃ r,h.lines=g.lines ++ r∧(∀ x ∈ r,(i:Int) ≤ x)∧(r=[] ↔ ∀ p ∈ S.st,p.1 ≠ j)
  new:∀ (j:Nat) (h:G),S.gs.length ≤ j → gs[j]? = some h → ∀ x ∈ h.lines,(i:Int) ≤ x
theorem ext_back (c:Int) (S T:GS) (k:ByteArray) (i:Nat) (gs:List G) (h:gstep c S k i=some T) (E:Ext T gs (i + 1)) (hS:Good S):Ext S gs i:=by
  rcases gstep_cases c S T k i h with ⟨ho,⟨g,hg,hgs⟩,hst⟩ | ⟨ho,hc,n,b,e,r,F,hs,hF,hgs,hst⟩ | ⟨ho,hc,rfl⟩
  · have hl:T.gs.length=S.gs.length + 1:=by rw [hgs];simp
    refine ⟨by have:=E.len;omega,?_,?_⟩
    · intro j x y hx hy
      have hj:=(List.getElem?_eq_some_iff.1 hx).1
      obtain ⟨r,h1,h2,h3⟩:=E.ext j x y (by rw [hgs,List.getElem?_append_left hj];exact hx) hy
      refine ⟨r,h1,fun z hz=>by have:=h2 z hz;omega,?_⟩
      rw [h3,hst]
      constructor
      · intro a p hp;exact a p (List.mem_cons_of_mem _ hp)
      · intro a p hp
        rcases List.mem_cons.1 hp with rfl | hp
        · dsimp only;omega
        · exact a p hp
    · intro j y hj hy z hz
      rcases Nat.lt_or_ge S.gs.length j with hj2 | hj2
      · have:=E.new j y (by omega) hy z hz;omega
      · obtain rfl:j=S.gs.length:=by omega
        obtain ⟨r,h1,h2,-⟩:=E.ext S.gs.length g y (by rw [hgs,List.getElem?_append_right (Nat.le_refl _),Nat.sub_self];rfl) hy
        rw [h1,hg] at hz
        rcases List.mem_append.1 hz with hz | hz
        · rw [List.mem_singleton.1 hz];exact Int.le_refl _
        · have:=h2 z hz;omega
  · have hl:T.gs.length=S.gs.length:=by rw [hgs];simp
    have hd:=hS.desc
    rw [hs] at hd
    have hd1:=(List.pairwise_cons.1 hd).1
    refine ⟨by have:=E.len;omega,?_,?_⟩
    · intro j x y hx hy
      have hTj:T.gs[j]? = some (if n=j then F x else x):=by
        rw [hgs,List.getElem?_modify,hx];rfl
      obtain ⟨r',h1,h2,h3⟩:=E.ext j _ y hTj hy
      by_cases hn:n=j
      · rw [if_pos hn,hF] at h1
        refine ⟨(i:Int) :: r',by rw [h1,List.append_assoc];rfl,?_,?_⟩
        · intro z hz
          rcases List.mem_cons.1 hz with rfl | hz
          · exact Int.le_refl _
          · have:=h2 z hz;omega
        · constructor
          · intro a;cases a
          · intro a;exact absurd hn (a (n,b,e) (by rw [hs];exact List.mem_cons_self))
      · rw [if_neg hn] at h1
        refine ⟨r',h1,fun z hz=>by have:=h2 z hz;omega,?_⟩
        rw [h3,hs]
        constructor
        · intro a p hp
          rcases List.mem_cons.1 hp with rfl | hp
          · exact hn
          · rcases hst with ⟨e1,-⟩ | ⟨e',e1⟩
            · exact a p (by rw [e1];exact hp)
            · exact a p (by rw [e1];exact List.mem_cons_of_mem _ hp)
        · intro a p hp
          rcases hst with ⟨e1,-⟩ | ⟨e',e1⟩
          · rw [e1] at hp;exact a p (List.mem_cons_of_mem _ hp)
          · rw [e1] at hp
            rcases List.mem_cons.1 hp with rfl | hp
            · exact hn
            · exact a p (List.mem_cons_of_mem _ hp)
    · intro j y hj hy z hz
      have:=E.new j y (by omega) hy z hz;omega
  · refine ⟨E.len,?_,?_⟩
    · intro j x y hx hy
      obtain ⟨r,h1,h2,h3⟩:=E.ext j x y hx hy
      exact ⟨r,h1,fun z hz=>by have:=h2 z hz;omega,h3⟩
    · intro j y hj hy z hz
      have:=E.new j y hj hy z hz;omega
theorem ext_run (c:Int) (gs:List G):∀ (ks:List ByteArray) (S T:GS) (i:Nat),grun c S ks i=.inl T → T.gs=gs → T.st=[] → Good S → Ext S gs i
  | [],S,T,i,h,hg,hst,hS=>by
    unfold grun at h;cases h
    subst hg
    refine ⟨Nat.le_refl _,?_,?_⟩
    · intro j x y hx hy
      rw [hx] at hy;cases hy
      exact ⟨[],by simp,by simp,by rw [hst];simp⟩
    · intro j y hj hy
      have:=(List.getElem?_eq_some_iff.1 hy).1;omega
  | k :: r,S,T,i,h,hg,hst,hS=>by
    unfold grun at h
    cases hq:gstep c S k i with
    | none=>rw [hq] at h;cases h
    | some U =>
      rw [hq] at h
      have hU:=good_step c S U k i hq hS
      exact ext_back c S U k i gs hq (ext_run c gs r U T (i + 1) h hg hst hU) hS
def nowOf (st:List (Nat × Nat × Bool)):List (Int × Int):=(st.map fun p=>((p.1:Int),(p.2.1:Int))).reverse
theorem nowOf_cons (p:Nat × Nat × Bool) (r:List (Nat × Nat × Bool)):nowOf (p :: r)=nowOf r ++ [((p.1:Int),(p.2.1:Int))]:=by unfold nowOf;simp
theorem opener_none:∀ (gs:List G) (i:Int) (n:Nat),(∀ g ∈ gs,g.lines.headD 0 ≠ i) → opener gs i n=none
  | [],i,n,_=>rfl
  | g :: r,i,n,h=>by
    unfold opener
    rw [opener_none r i (n + 1) fun x hx=>h x (List.mem_cons_of_mem _ hx)]
    dsimp only
    rw [if_neg (h g (by simp))]
theorem opener_at:∀ (gs:List G) (i:Int) (m n:Nat) (g:G),gs[m]? = some g → g.lines.headD 0=i → (∀ (j:Nat) (x:G),m < j → gs[j]? = some x → x.lines.headD 0 ≠ i) → opener gs i n=some (n + m)
  | [],i,m,n,g,h,_,_=>by simp at h
  | x :: r,i,0,n,g,h,h1,h2=>by
    simp at h;subst h
    unfold opener
    rw [opener_none r i (n + 1) fun y hy=>by
      obtain ⟨j,hj⟩:=List.mem_iff_getElem?.1 hy
      exact h2 (j + 1) y (by omega) (by simpa using hj)]
    dsimp only
    rw [if_pos h1];rfl
  | x :: r,i,m + 1,n,g,h,h1,h2=>by
    unfold opener
    rw [opener_at r i m (n + 1) g (by simpa using h) h1 fun j y hj hy=>h2 (j + 1) y (by omega) (by simpa using hy)]
    dsimp only
    congr 1;omega
theorem isEnd_no (gs:List G) (i:Int) (h:∀ g ∈ gs,g.lines.getLastD 0 ≠ i):isEnd gs i=false:=by
  unfold isEnd
  rw [List.any_eq_false]
  intro g hg
  simpa using h g hg
theorem isEnd_yes (gs:List G) (i:Int) (g:G) (hg:g ∈ gs) (h:g.lines.getLastD 0=i):isEnd gs i=true:=by
  unfold isEnd
  rw [List.any_eq_true]
  exact ⟨g,hg,by simpa using h⟩
theorem isOther_no (gs:List G) (i:Int) (h:∀ g ∈ gs,i ∉ g.lines):isOther gs i=false:=by
  unfold isOther
  rw [List.any_eq_false]
  intro g hg hc
  exact h g hg (List.mem_of_mem_drop (List.elem_iff.1 hc))
theorem isOther_yes (gs:List G) (i:Int) (g:G) (hg:g ∈ gs) (h:i ∈ g.lines.drop 1):isOther gs i=true:=by
  unfold isOther
  rw [List.any_eq_true]
  exact ⟨g,hg,List.elem_iff.2 h⟩
theorem nowOf_last (p:Nat × Nat × Bool) (r:List (Nat × Nat × Bool)):(nowOf (p :: r)).getLast? = some ((p.1:Int),(p.2.1:Int))∧(nowOf (p :: r)).dropLast=nowOf r∧(nowOf (p :: r)).isEmpty=false:=by
  rw [nowOf_cons]
  refine ⟨by simp,by simp,by simp⟩
theorem pl_step (c:Int) (S T:GS) (k:ByteArray) (i:Nat) (gs:List G) (h:gstep c S k i=some T) (hS:Good S) (hlt:∀ g ∈ S.gs,∀ x ∈ g.lines,x < (i:Int)) (E:Ext S gs i) (E':Ext T gs (i + 1)) (hne:∀ g ∈ gs,g.lines ≠ []) :
    ∃ o,plStep gs (nowOf S.st) (i:Int)=some (nowOf T.st,o)∧(o=nowOf S.st ∨ o=(nowOf S.st).dropLast)∧(opens k=false → closes k=false → o=nowOf S.st):=by
  have hold:∀ (j:Nat) (g y:G),S.gs[j]? = some g → gs[j]? = some y → y.lines.headD 0 < (i:Int):=by
    intro j g y hg hy
    obtain ⟨r,h1,-,-⟩:=E.ext j g y hg hy
    have hm:=List.mem_iff_getElem?.2 ⟨j,hg⟩
    have hn:=hS.ne g hm
    rw [h1]
    obtain ⟨a,q,hq⟩:=List.exists_cons_of_ne_nil hn
    rw [hq]
    exact hlt g hm a (by rw [hq];simp)
  have hnew:∀ (j:Nat) (y:G),T.gs.length ≤ j → gs[j]? = some y → ∀ x ∈ y.lines,(i:Int) < x:=fun j y hj hy x hx=>by
    have:=E'.new j y hj hy x hx;omega
  rcases gstep_cases c S T k i h with ⟨ho,⟨g,hg,hgs⟩,hst⟩ | ⟨ho,hc,n,b,e,r,F,hs,hF,hgs,hst⟩ | ⟨ho,hc,rfl⟩
  · have hl:T.gs.length=S.gs.length + 1:=by rw [hgs];simp
    have hj:S.gs.length < gs.length:=by have:=E'.len;omega
    obtain ⟨r,h1,h2,h3⟩:=E'.ext S.gs.length g gs[S.gs.length] (by rw [hgs,List.getElem?_append_right (Nat.le_refl _),Nat.sub_self];rfl) (List.getElem?_eq_getElem hj)
    have hop:=opener_at gs (i:Int) S.gs.length 0 _ (List.getElem?_eq_getElem hj) (by rw [h1,hg];rfl) fun j x hjx hx=>by
      have:=hnew j x (by omega) hx _ (headD_mem (hne x (List.mem_iff_getElem?.2 ⟨j,hx⟩)));omega
    refine ⟨nowOf S.st,?_,.inl rfl,fun a=>by rw [ho] at a;cases a⟩
    unfold plStep
    rw [hop,hst,nowOf_cons,Nat.zero_add]
    rfl
  · have hl:T.gs.length=S.gs.length:=by rw [hgs];simp
    have hd:=hS.desc
    rw [hs] at hd
    have hd1:=(List.pairwise_cons.1 hd).1
    have hop:opener gs (i:Int) 0=none:=opener_none gs _ 0 fun y hy=>by
      obtain ⟨j,hj⟩:=List.mem_iff_getElem?.1 hy
      by_cases hjl:j < S.gs.length
      · have:=hold j _ y (List.getElem?_eq_getElem hjl) hj;omega
      · have:=hnew j y (by omega) hj _ (headD_mem (hne y hy));omega
    have hnl:n < S.gs.length:=hS.lt (n,b,e) (by rw [hs];exact List.mem_cons_self)
    have hng:n < gs.length:=Nat.lt_of_lt_of_le hnl E.len
    have hTn:T.gs[n]? = some (F S.gs[n]):=by rw [hgs,List.getElem?_modify,List.getElem?_eq_getElem hnl];simp
    obtain ⟨r',h1,h2,h3⟩:=E'.ext n _ _ hTn (List.getElem?_eq_getElem hng)
    rw [hF] at h1
    obtain ⟨l1,l2,l3⟩:=nowOf_last (n,b,e) r
    rcases hst with ⟨e1,-⟩ | ⟨e',e1⟩
    · have hr0:r'=[]:=h3.2 fun p hp=>by
        rw [e1] at hp
        have:=hd1 p hp
        dsimp only at this;omega
      have hend:=isEnd_yes gs (i:Int) gs[n] (List.getElem_mem hng) (by rw [h1,hr0,List.append_nil];simp)
      refine ⟨(nowOf S.st).dropLast,?_,.inr rfl,fun _ a=>by rw [hc] at a;cases a⟩
      unfold plStep
      rw [hop]
      dsimp only
      rw [if_pos hend,hs,l3,l2,if_neg Bool.false_ne_true,e1]
    · have hr0:r' ≠ []:=fun a=>h3.1 a (n,b + 1,e') (by rw [e1];exact List.mem_cons_self) rfl
      have hend:=isEnd_no gs (i:Int) fun y hy=>by
        obtain ⟨j,hj⟩:=List.mem_iff_getElem?.1 hy
        by_cases hjl:j < S.gs.length
        · by_cases hjn:j=n
          · subst hjn
            rw [List.getElem?_eq_getElem hng] at hj
            cases hj
            rw [h1]
            rw [getLastD_app _ _ hr0]
            have:=h2 _ (getLastD_mem hr0);omega
          · have hTj:T.gs[j]? = some S.gs[j]:=by rw [hgs,List.getElem?_modify,List.getElem?_eq_getElem hjl];simp;intro e;exact absurd e.symm hjn
            obtain ⟨r2,k1,k2,-⟩:=E'.ext j _ y hTj hj
            have hm:=getLastD_mem (hne y hy)
            have hm2:y.lines.getLastD 0 ∈ S.gs[j].lines ++ r2:=by rw [← k1];exact hm
            rcases List.mem_append.1 hm2 with hm | hm
            · have:=hlt _ (List.getElem_mem hjl) _ hm;omega
            · have:=k2 _ hm;omega
        · have:=hnew j y (by omega) hj _ (getLastD_mem (hne y hy));omega
      have hoth:=isOther_yes gs (i:Int) gs[n] (List.getElem_mem hng) (by
        rw [h1]
        obtain ⟨a,q,hq⟩:=List.exists_cons_of_ne_nil (hS.ne _ (List.getElem_mem hnl))
        rw [hq];simp)
      refine ⟨(nowOf S.st).dropLast,?_,.inr rfl,fun _ a=>by rw [hc] at a;cases a⟩
      unfold plStep
      rw [hop]
      dsimp only
      rw [hend,if_neg Bool.false_ne_true,if_pos hoth,hs,l1]
      dsimp only
      rw [l2,e1,nowOf_cons]
      rfl
  · have hall:∀ y ∈ gs,(i:Int) ∉ y.lines:=fun y hy hm=>by
      obtain ⟨j,hj⟩:=List.mem_iff_getElem?.1 hy
      by_cases hjl:j < T.gs.length
      · obtain ⟨r,h1,h2,-⟩:=E'.ext j _ y (List.getElem?_eq_getElem hjl) hj
        rcases List.mem_append.1 (h1 ▸ hm) with hm | hm
        · have:=hlt _ (List.getElem_mem hjl) _ hm;omega
        · have:=h2 _ hm;omega
      · have:=hnew j y (by omega) hj _ hm;omega
    have hop:opener gs (i:Int) 0=none:=opener_none gs _ 0 fun y hy a=>hall y hy (by rw [← a];exact headD_mem (hne y hy))
    refine ⟨nowOf T.st,?_,.inl rfl,fun _ _=>rfl⟩
    unfold plStep
    rw [hop]
    dsimp only
    rw [isEnd_no gs _ fun y hy a=>hall y hy (by rw [← a];exact getLastD_mem (hne y hy)),if_neg Bool.false_ne_true,isOther_no gs _ hall,if_neg Bool.false_ne_true]
def InOf (gs:List G) (o:List (Int × Int)) (i:Int):Prop:=∀ (j:Nat) (y:G),gs[j]? = some y → (∀ b:Int,((j:Int),b) ∈ o → withinL y.lines i 0=b∧0 ≤ b)∧((∀ b:Int,((j:Int),b) ∉ o) → withinL y.lines i 0 = -1)
theorem in_now (S:GS) (i:Nat) (gs:List G) (hS:Good S) (hlt:∀ g ∈ S.gs,∀ x ∈ g.lines,x < (i:Int)) (E:Ext S gs (i + 1)):InOf gs (nowOf S.st) (i:Int):=by
  intro j y hy
  constructor
  · intro b hb
    unfold nowOf at hb
    rw [List.mem_reverse,List.mem_map] at hb
    obtain ⟨p,hp,e⟩:=hb
    simp only [Prod.mk.injEq] at e
    have hj:p.1=j:=by omega
    have hjl:=hS.lt p hp
    rw [hj] at hjl
    obtain ⟨r,h1,h2,h3⟩:=E.ext j _ y (List.getElem?_eq_getElem hjl) hy
    have hm:=List.getElem_mem hjl
    have hr0:r ≠ []:=fun a=>h3.1 a p hp hj
    have hlen:=hS.len p hp S.gs[j] (by rw [hj];exact List.getElem?_eq_getElem hjl)
    rw [h1,within_in r (i:Int) hr0 (fun x hx=>by have:=h2 x hx;omega) _ 0 (hS.ne _ hm) (hlt _ hm),hlen]
    omega
  · intro hb
    by_cases hjl:j < S.gs.length
    · obtain ⟨r,h1,h2,h3⟩:=E.ext j _ y (List.getElem?_eq_getElem hjl) hy
      have hr0:r=[]:=h3.2 fun p hp a=>by
        refine hb (p.2.1:Int) ?_
        unfold nowOf
        rw [List.mem_reverse,List.mem_map]
        exact ⟨p,hp,by rw [a]⟩
      rw [h1,hr0,List.append_nil]
      exact within_low _ _ _ (hlt _ (List.getElem_mem hjl))
    · exact within_high _ _ _ fun x hx=>by have:=E.new j y (by omega) hy x hx;omega
def OkOut (n m:Nat) (o:List (Int × Int)):Prop:=o.length ≤ m∧∀ p ∈ o,0 ≤ p.1∧p.1 < (n:Int)
theorem ok_now (S:GS) (gs:List G) (hS:Good S) (hl:S.gs.length ≤ gs.length):OkOut gs.length gs.length (nowOf S.st):=by
  constructor
  · unfold nowOf
    rw [List.length_reverse,List.length_map]
    have hd:=hS.desc
    have hb:=hS.lt
    have:∀ (st:List (Nat × Nat × Bool)) (n:Nat),(∀ p ∈ st,p.1 < n) → st.Pairwise (fun p q=>q.1 < p.1) → st.length ≤ n:=by
      intro st
      induction st with
      | nil=>exact fun n _ _=>Nat.zero_le _
      | cons p r ih =>
        intro n h1 h2
        have h3:=List.pairwise_cons.1 h2
        have:=ih p.1 h3.1 h3.2
        have:=h1 p (by simp)
        simp only [List.length_cons];omega
    exact Nat.le_trans (this S.st S.gs.length hb hd) hl
  · intro p hp
    unfold nowOf at hp
    rw [List.mem_reverse,List.mem_map] at hp
    obtain ⟨q,hq,rfl⟩:=hp
    have:=hS.lt q hq
    dsimp only
    omega
theorem good_run (c:Int):∀ (ks:List ByteArray) (S T:GS) (i:Nat),grun c S ks i=.inl T → Good S → Good T
  | [],S,T,i,h,hS=>by unfold grun at h;cases h;exact hS
  | k :: r,S,T,i,h,hS=>by
    unfold grun at h
    cases hq:gstep c S k i with
    | none=>rw [hq] at h;cases h
    | some U=>rw [hq] at h;exact good_run c r U T (i + 1) h (good_step c S U k i hq hS)
end Lx
theorem within_at (l:List Int) (i:Int) (k:Nat) (a b:Int) (ha:l[k]? = some a) (hb:l[k + 1]? = some b) (q:Int):Lx.withinL (l.drop k) i q=if a < i∧i < b then q else Lx.withinL (l.drop (k + 1)) i (q + 1):=by
  obtain ⟨h1,rfl⟩:=List.getElem?_eq_some_iff.1 ha
  obtain ⟨h2,rfl⟩:=List.getElem?_eq_some_iff.1 hb
  rw [List.drop_eq_getElem_cons h1,List.drop_eq_getElem_cons h2]
  rfl
theorem within_end (l:List Int) (i:Int) (k:Nat) (h:l.length ≤ k + 1) (q:Int):Lx.withinL (l.drop k) i q = -1:=by
  cases hd:l.drop k with
  | nil=>rfl
  | cons a r =>
    cases r with
    | nil=>rfl
    | cons b r =>
      have:=congrArg List.length hd
      simp only [List.length_drop,List.length_cons] at this
      omega
set_option maxRecDepth 100000 in
set_option maxHeartbeats 4000000 in
theorem within_calls (gl m cl:Nat) (br pr bc i:Int) (l:List Int) (w:World) (hl:l.length=m) (hm:m ≤ 1000000) (hc:m ≤ cl) (hI:IntAt w gl 0 l) (hgl:gl < w.heap.size) :
    Calls Tryz.prog 49 #[.agg #[.slice (some ⟨gl,0,none⟩) m cl,.int .i64 br,.int .i64 pr,.int .i64 bc],.int .i64 i] w fun e w'=>e=.returned (.int .i64 (Lx.withinL l i 0))∧w.grownBy w' none:=by
  obtain ⟨R,hR⟩:∃ R,Lx.withinL l i 0=R:=⟨_,rfl⟩
  rw [hR]
  have HR:=mkA hR
  have HL:=mkA hl
  have HI:=mkA hI
  have HG:=mkA (World.grownBy_alloc w (.cells #[.slice (some ⟨gl,0,none⟩) m cl,.int .i64 br,.int .i64 pr,.int .i64 bc] 42) none)
  have c0:(w.alloc (.cells #[.slice (some ⟨gl,0,none⟩) m cl,.int .i64 br,.int .i64 pr,.int .i64 bc] 42)).cell? ⟨w.heap.size,0,none⟩=some (.slice (some ⟨gl,0,none⟩) m cl):=by rw [blk_cell (blk_new w _)];rfl
  clear hR hl hI
  go_enter Tryz.func49,Tryz.ntmps49
  go_wp2_with fail
  go_loopg [5] (m + 1) (fun kq v5 W => ∃ k:Nat,v5=.int .i64 k∧Aside0 (k ≤ m∧kq=m + 1 - k∧Lx.withinL (l.drop k) i k=R)∧W=(w.alloc (.cells #[.slice (some ⟨gl,0,none⟩) m cl,.int .i64 br,.int .i64 pr,.int .i64 bc] 42)))
  case atStart=>exact ⟨0,rfl,⟨by omega,by omega,HR.out⟩,rfl⟩
  case round =>
    obtain ⟨k,rfl,HJ,rfl⟩:=hrel
    have hk:=HJ.out.1
    have hw1:IntKind.i64.wrap ((k:Int) + 1)=(k:Int) + 1:=IntWalk.i64_in _ (by omega)
    by_cases hlt:k + 1 < m
    · obtain ⟨a,ha⟩:∃ a,l[k]? = some a:=⟨_,List.getElem?_eq_getElem (by have:=HL.out;omega)⟩
      obtain ⟨b,hb⟩:∃ b,l[k + 1]? = some b:=⟨_,List.getElem?_eq_getElem (by have:=HL.out;omega)⟩
      have x0:=HG.out.cell (HI.out k a ha) (by simp)
      have x1:=HG.out.cell (HI.out (k + 1) b hb) (by simp)
      rw [Nat.zero_add] at x0 x1
      have hwn:=HJ.out.2.2
      rw [within_at l i k a b ha hb] at hwn
      have HWN:=mkA hwn
      have hkm:((k:Int) + 1 < (m:Int)):=by omega
      have hcst:((k + 1:Nat):Int)=(k:Int) + 1:=by omega
      have hmc:m ≤ cl:=hc
      obtain ⟨p1,hp1⟩:∃ p1,decide (a < i)=p1:=⟨_,rfl⟩
      obtain ⟨p2,hp2⟩:∃ p2,decide (i < b)=p2:=⟨_,rfl⟩
      have HP1:=mkA hp1
      have HP2:=mkA hp2
      clear ha hb hwn
      cases p1
      · have h0:=HWN.out
        rw [if_neg (fun h=>of_decide_eq_false HP1.out h.1)] at h0
        have HH:=mkA h0
        clear h0
        go_wp2_with fail
        go_roundg (m + 1 - (k + 1))
        case measure=>have:=HJ.out.2.1;omega
        case rel=>exact ⟨k + 1,by go_num,⟨by omega,rfl,by rw [hcst];exact HH.out⟩,rfl⟩
      · cases p2
        · have h0:=HWN.out
          rw [if_neg (fun h=>of_decide_eq_false HP2.out h.2)] at h0
          have HH:=mkA h0
          clear h0
          go_wp2_with fail
          go_roundg (m + 1 - (k + 1))
          case measure=>have:=HJ.out.2.1;omega
          case rel=>exact ⟨k + 1,by go_num,⟨by omega,rfl,by rw [hcst];exact HH.out⟩,rfl⟩
        · have h0:=HWN.out
          rw [if_pos ⟨of_decide_eq_true HP1.out,of_decide_eq_true HP2.out⟩] at h0
          have HH:=mkA h0
          clear h0
          go_wp2_with fail
          go_ret
          exact ⟨by rw [HH.out];rfl,HG.out⟩
    · have hwn:=HJ.out.2.2
      rw [within_end l i k (by have:=HL.out;omega)] at hwn
      have hkm:¬ ((k:Int) + 1 < (m:Int)):=by omega
      have HWN:=mkA hwn
      clear hwn
      go_wp2_with fail
      go_ret
      exact ⟨by rw [← HWN.out];rfl,HG.out⟩
set_option maxRecDepth 100000 in
theorem of_calls (v:Value) (L:List Lx.Tok) (w:World) (hT:Tks w v L) (hlen:L.length ≤ 100000) (hs:∀ t ∈ L,t.t.size ≤ 20000) (hW:Laid w)
    (hE:(Lx.groups (L.map Lx.kindOf)).2.1=0) (outs:List (List (Int × Int))) (hP:Lx.places (Lx.groups (L.map Lx.kindOf)).1 L.length=some outs) (hSm:Lx.Small (Lx.groups (L.map Lx.kindOf)).1) (hol:outs.length=L.length) (i:Nat) (o:List (Int × Int)) (ho:outs[i]? = some o) :
    Calls Tryz.prog 27 #[v,.int .i64 i] w fun e w' => ∃ ov,e=.returned (.tuple #[ov,.int .i64 0])∧w'.ownsRow w.heap.size 58 2 ov o.length (pairCells o)∧Below w.heap.size w w':=by
  have h5:=hW.size
  have HPL:=mkA (places_calls v L w hT hlen hs hW.maxLen hW.blanks (by omega) hE outs hP hSm)
  have hil:=(List.getElem?_eq_some_iff.1 ho).1
  obtain ⟨n,hn⟩:∃ n,L.length=n:=⟨_,rfl⟩
  obtain ⟨A,c,rfl,hc1,hc2,hA⟩:=hT
  rw [hn] at hol HPL hlen ⊢
  rw [hol] at hil
  have HO:=mkA ho
  have HOL:=mkA hol
  have hi0:decide ((i:Int) < 0)=false:=decide_eq_false (by omega)
  have hi1:decide ((n:Int) ≤ (i:Int))=false:=decide_eq_false (by omega)
  clear hs hW hE hP hSm hn hA ho hol
  go_enter Tryz.func27,Tryz.ntmps27
  go_wp2_with (first | (go_at_call 46;(refine HPL.out.mono ?_);rintro e w1 ⟨ov,gv,rfl,hgrp,hout,hb⟩;obtain ⟨vs,e1,e2,e3⟩:=hout;rw [HOL.out] at e2;obtain ⟨og,oc,rfl,-,hogl⟩:=e2.form (by omega);obtain ⟨va,hva⟩:∃ va,vs[i]? = some va:=⟨_,List.getElem?_eq_getElem (by have:=HOL.out;omega)⟩;have hrow:=e3 i va o hva HO.out;obtain ⟨ra,rc,rfl⟩:=own_slice hrow;have r0:w1.cell? ⟨og,i,none⟩=some (.slice ra o.length rc):=(by rw [e2.cellAt i (by omega)];exact hva);have HROW:=mkA hrow;have HB:=mkA hb;clear hgrp hb e1 e2 e3 hva hrow))
  go_ret2
  exact ⟨_,rfl,HROW.out,HB.out⟩
set_option maxRecDepth 100000 in
theorem names_err (v:Value) (L:List Lx.Tok) (w:World) (hT:Tks w v L) (hlen:L.length ≤ 100000) (hs:∀ t ∈ L,t.t.size ≤ 20000) (hL:Laid w)
    (E:Int) (hE:(Lx.groups (L.map Lx.kindOf)).2.1=E) (hne:(E != 0)=true) :
    Calls Tryz.prog 32 #[v] w fun e w'=>e=.returned (.tuple #[.slice none 0 0,.int .i64 E])∧Below w.heap.size w w':=by
  have hg:=condGroups_calls v L w hT hlen hs hL.maxLen hL.blanks (by have:=hL.size;omega)
  rw [hE] at hg
  have HG:=mkA hg
  clear hg hE hT hs hL
  go_enter Tryz.func32,Tryz.ntmps32
  go_wp2_with (first | (go_at_call 16;(refine HG.out.mono ?_);rintro e w1 ⟨gv,rfl,hgrp,hb⟩;have HB:=mkA hb;clear hgrp hb))
  go_ret2
  exact ⟨rfl,HB.out⟩
set_option maxRecDepth 100000 in
theorem dead_err (v:Value) (L:List Lx.Tok) (w:World) (hT:Tks w v L) (hlen:L.length ≤ 100000) (hs:∀ t ∈ L,t.t.size ≤ 20000) (hL:Laid w)
    (E:Int) (hE:(Lx.groups (L.map Lx.kindOf)).2.1=E) (hne:(E != 0)=true) :
    Calls Tryz.prog 34 #[v] w fun e w'=>e=.returned (.tuple #[.slice none 0 0,.int .i64 E])∧Below w.heap.size w w':=by
  have hg:=condGroups_calls v L w hT hlen hs hL.maxLen hL.blanks (by have:=hL.size;omega)
  rw [hE] at hg
  have HG:=mkA hg
  clear hg hE hT hs hL
  go_enter Tryz.func34,Tryz.ntmps34
  go_wp2_with (first | (go_at_call 16;(refine HG.out.mono ?_);rintro e w1 ⟨gv,rfl,hgrp,hb⟩;have HB:=mkA hb;clear hgrp hb))
  go_ret2
  exact ⟨rfl,HB.out⟩
set_option maxRecDepth 100000 in
theorem refnames_err (v:Value) (L:List Lx.Tok) (w:World) (hT:Tks w v L) (hlen:L.length ≤ 100000) (hs:∀ t ∈ L,t.t.size ≤ 20000)
    (E:Int) (hE:(Lx.groups (L.map Lx.kindOf)).2.1=E) (hne:(E != 0)=true) :
    Calls Tryz.prog 33 #[v] w fun e w'=>e=.returned (.tuple #[.slice none 0 0,.int .i64 E])∧Below w.heap.size w w':=by
  have hg:=refGroups_calls v L w hT hlen hs
  rw [hE] at hg
  have HG:=mkA hg
  clear hg hE hT hs
  go_enter Tryz.func33,Tryz.ntmps33
  go_wp2_with (first | (go_at_call 17;(refine HG.out.mono ?_);rintro e w1 ⟨gv,rfl,hgrp,hb⟩;have HB:=mkA hb;clear hgrp hb))
  go_ret2
  exact ⟨rfl,HB.out⟩
set_option maxRecDepth 100000 in
theorem refdead_err (v:Value) (L:List Lx.Tok) (w:World) (hT:Tks w v L) (hlen:L.length ≤ 100000) (hs:∀ t ∈ L,t.t.size ≤ 20000)
    (E:Int) (hE:(Lx.groups (L.map Lx.kindOf)).2.1=E) (hne:(E != 0)=true) :
    Calls Tryz.prog 35 #[v] w fun e w'=>e=.returned (.tuple #[.slice none 0 0,.int .i64 E])∧Below w.heap.size w w':=by
  have hg:=refGroups_calls v L w hT hlen hs
  rw [hE] at hg
  have HG:=mkA hg
  clear hg hE hT hs
  go_enter Tryz.func35,Tryz.ntmps35
  go_wp2_with (first | (go_at_call 17;(refine HG.out.mono ?_);rintro e w1 ⟨gv,rfl,hgrp,hb⟩;have HB:=mkA hb;clear hgrp hb))
  go_ret2
  exact ⟨rfl,HB.out⟩
set_option maxRecDepth 100000 in
theorem refof_err (v:Value) (L:List Lx.Tok) (w:World) (hT:Tks w v L) (hlen:L.length ≤ 100000) (hs:∀ t ∈ L,t.t.size ≤ 20000) (i:Int)
    (E:Int) (hE:(Lx.groups (L.map Lx.kindOf)).2.1=E) (hne:(E != 0)=true) :
    Calls Tryz.prog 31 #[v,.int .i64 i] w fun e w'=>e=.returned (.tuple #[.slice none 0 0,.int .i64 E])∧Below w.heap.size w w':=by
  have hg:=refGroups_calls v L w hT hlen hs
  rw [hE] at hg
  have HG:=mkA hg
  clear hg hE hT hs
  go_enter Tryz.func31,Tryz.ntmps31
  go_wp2_with (first | (go_at_call 17;(refine HG.out.mono ?_);rintro e w1 ⟨gv,rfl,hgrp,hb⟩;have HB:=mkA hb;clear hgrp hb))
  go_ret2
  exact ⟨rfl,HB.out⟩
namespace Lx
theorem within_ge:∀ (A:List Int) (i k:Int),(∀ x ∈ A,i ≤ x) → withinL A i k = -1
  | [],i,k,_=>rfl
  | [a],i,k,_=>rfl
  | a :: b :: r,i,k,h=>by
    unfold withinL
    have hb:=h a (by simp)
    rw [if_neg (by omega)]
    exact within_ge (b :: r) i (k + 1) fun x hx=>h x (List.mem_cons_of_mem _ hx)
theorem within_on (B:List Int) (i:Int) (hb:∀ x ∈ B,i < x):∀ (A:List Int) (k:Int),(∀ x ∈ A,x < i) → withinL (A ++ i :: B) i k = -1
  | [],k,h=>within_ge _ _ _ fun x hx=>by
    rcases List.mem_cons.1 hx with rfl | hx
    · exact Int.le_refl _
    · have:=hb x hx;omega
  | [a],k,h=>by
    simp only [List.singleton_append]
    unfold withinL
    rw [if_neg (by omega)]
    exact within_ge _ _ _ fun x hx=>by
      rcases List.mem_cons.1 hx with rfl | hx
      · exact Int.le_refl _
      · have:=hb x hx;omega
  | a :: a2 :: r,k,h=>by
    have h2:=h a2 (by simp)
    simp only [List.cons_append,withinL]
    rw [if_neg (by omega),← List.cons_append]
    exact within_on B i hb (a2 :: r) (k + 1) fun x hx=>h x (List.mem_cons_of_mem _ hx)
theorem plStep_snd (gs:List G) (now now' o:List (Int × Int)) (i:Int) (h:plStep gs now i=some (now',o)):(now'.length=now.length + 1∧o=now) ∨ (o=now.dropLast∧now ≠ []∧now'.length ≤ now.length) ∨ (o=now∧now'=now):=by
  unfold plStep at h
  split at h
  · simp only [Option.some.injEq,Prod.mk.injEq] at h
    obtain ⟨rfl,rfl⟩:=h
    exact .inl ⟨by simp,rfl⟩
  · split at h
    · split at h
      · cases h
      · rename_i hne
        simp only [Option.some.injEq,Prod.mk.injEq] at h
        obtain ⟨rfl,rfl⟩:=h
        exact .inr (.inl ⟨rfl,fun e=>hne (by rw [e];rfl),by simp⟩)
    · split at h
      · split at h
        · cases h
        · rename_i p hp
          simp only [Option.some.injEq,Prod.mk.injEq] at h
          obtain ⟨rfl,rfl⟩:=h
          have hn:now ≠ []:=fun e=>by rw [e] at hp;cases hp
          have:=List.length_pos_iff.2 hn
          exact .inr (.inl ⟨rfl,hn,by simp;omega⟩)
      · simp only [Option.some.injEq,Prod.mk.injEq] at h
        obtain ⟨rfl,rfl⟩:=h
        exact .inr (.inr ⟨rfl,rfl⟩)
theorem nowOf_length (st:List (Nat × Nat × Bool)):(nowOf st).length=st.length:=by unfold nowOf;simp
theorem nowOf_mem (st:List (Nat × Nat × Bool)) (j:Nat) (b:Int) (h:((j:Int),b) ∈ nowOf st):∃ p ∈ st,p.1=j∧(p.2.1:Int)=b:=by
  unfold nowOf at h
  rw [List.mem_reverse,List.mem_map] at h
  obtain ⟨p,hp,e⟩:=h
  simp only [Prod.mk.injEq] at e
  exact ⟨p,hp,by omega,e.2⟩
theorem mem_nowOf (st:List (Nat × Nat × Bool)) (p:Nat × Nat × Bool) (h:p ∈ st):((p.1:Int),(p.2.1:Int)) ∈ nowOf st:=by
  unfold nowOf
  rw [List.mem_reverse,List.mem_map]
  exact ⟨p,h,rfl⟩
theorem in_st (gs SG:List G) (st:List (Nat × Nat × Bool)) (i:Nat) (H1:∀ p ∈ st,p.1 < SG.length) (H1b:∀ p ∈ st,∀ g,SG[p.1]? = some g → g.lines.length=p.2.1 + 1) (Hne:∀ g ∈ SG,g.lines ≠ []) (hlt:∀ g ∈ SG,∀ x ∈ g.lines,x < (i:Int))
    (H2:∀ (j:Nat) (g y:G),SG[j]? = some g → gs[j]? = some y → (∃ r,y.lines=g.lines ++ r∧(∀ x ∈ r,(i:Int) < x)∧(r=[] ↔ ∀ p ∈ st,p.1 ≠ j)) ∨ ((∀ p ∈ st,p.1 ≠ j)∧withinL y.lines i 0 = -1))
    (H3:∀ (j:Nat) (y:G),SG.length ≤ j → gs[j]? = some y → withinL y.lines i 0 = -1):InOf gs (nowOf st) (i:Int):=by
  intro j y hy
  constructor
  · intro b hb
    obtain ⟨p,hp,hj,rfl⟩:=nowOf_mem st j b hb
    have hjl:=H1 p hp
    rw [hj] at hjl
    have hm:=List.getElem_mem hjl
    rcases H2 j _ y (List.getElem?_eq_getElem hjl) hy with ⟨r,h1,h2,h3⟩ | ⟨h1,-⟩
    · have hr0:r ≠ []:=fun a=>h3.1 a p hp hj
      have hlen:=H1b p hp SG[j] (by rw [hj];exact List.getElem?_eq_getElem hjl)
      rw [h1,within_in r (i:Int) hr0 h2 _ 0 (Hne _ hm) (hlt _ hm),hlen]
      omega
    · exact absurd hj (h1 p hp)
  · intro hb
    by_cases hjl:j < SG.length
    · rcases H2 j _ y (List.getElem?_eq_getElem hjl) hy with ⟨r,h1,h2,h3⟩ | ⟨-,h1⟩
      · have hr0:r=[]:=h3.2 fun p hp a=>hb (p.2.1:Int) (by rw [← a];exact mem_nowOf st p hp)
        rw [h1,hr0,List.append_nil]
        exact within_low _ _ _ (hlt _ (List.getElem_mem hjl))
      · exact h1
    · exact H3 j y (by omega) hy
theorem now_up (st:List (Nat × Nat × Bool)) (h:st.Pairwise fun p q=>q.1 < p.1):(nowOf st).Pairwise fun p q=>p.1 < q.1:=by
  unfold nowOf
  rw [List.pairwise_reverse,List.pairwise_map]
  exact h.imp fun h=>by dsimp only;omega
theorem pl_in (c:Int) (S T:GS) (k:ByteArray) (i:Nat) (gs:List G) (o:List (Int × Int)) (h:gstep c S k i=some T) (hS:Good S) (hlt:∀ g ∈ S.gs,∀ x ∈ g.lines,x < (i:Int)) (E:Ext S gs i) (E':Ext T gs (i + 1)) (ho:plStep gs (nowOf S.st) (i:Int)=some (nowOf T.st,o)) (hpl:opens k=false → closes k=false → o=nowOf S.st) :
    InOf gs o (i:Int)∧o.Pairwise fun p q=>p.1 < q.1:=by
  have hnew:∀ (j:Nat) (y:G),T.gs.length ≤ j → gs[j]? = some y → withinL y.lines i 0 = -1:=fun j y hj hy=>within_ge _ _ _ fun x hx=>by
    have:=E'.new j y hj hy x hx;omega
  have hc0:=plStep_snd gs _ _ o _ ho
  rw [nowOf_length,nowOf_length] at hc0
  rcases gstep_cases c S T k i h with ⟨hop,⟨g,hg,hgs⟩,hst⟩ | ⟨hop,hc,n,b,e,r,F,hs,hF,hgs,hst⟩ | ⟨hop,hc,rfl⟩
  · have hl:T.gs.length=S.gs.length + 1:=by rw [hgs];simp
    have hoe:o=nowOf S.st:=by
      rcases hc0 with ⟨-,e⟩ | ⟨-,-,e⟩ | ⟨e,-⟩
      · exact e
      · rw [hst] at e;simp at e;omega
      · exact e
    subst hoe
    refine ⟨in_st gs S.gs S.st i hS.lt hS.len hS.ne hlt ?_ ?_,now_up _ hS.desc⟩
    · intro j x y hx hy
      have hj:=(List.getElem?_eq_some_iff.1 hx).1
      obtain ⟨r,h1,h2,h3⟩:=E'.ext j x y (by rw [hgs,List.getElem?_append_left hj];exact hx) hy
      refine .inl ⟨r,h1,fun z hz=>by have:=h2 z hz;omega,?_⟩
      rw [h3,hst]
      constructor
      · intro a p hp;exact a p (List.mem_cons_of_mem _ hp)
      · intro a p hp
        rcases List.mem_cons.1 hp with rfl | hp
        · dsimp only;omega
        · exact a p hp
    · intro j y hj hy
      exact within_ge _ _ _ fun x hx=>E.new j y hj hy x hx
  · have hl:T.gs.length=S.gs.length:=by rw [hgs];simp
    have hd:=hS.desc
    rw [hs] at hd
    have hd1:=(List.pairwise_cons.1 hd).1
    have hoe:o=nowOf r:=by
      rw [hs] at hc0
      rw [← (nowOf_last (n,b,e) r).2.1]
      rcases hc0 with ⟨e1,-⟩ | ⟨e1,-,-⟩ | ⟨-,e1⟩
      · rcases hst with ⟨a,-⟩ | ⟨e',a⟩ <;> rw [a] at e1 <;> simp at e1 <;> omega
      · exact e1
      · rcases hst with ⟨a,-⟩ | ⟨e',a⟩
        · have:=congrArg List.length e1
          rw [nowOf_length,nowOf_length,a] at this
          simp at this
        · rw [a,nowOf_cons,nowOf_cons] at e1
          have:=List.append_cancel_left e1
          simp at this
          omega
    subst hoe
    refine ⟨in_st gs S.gs r i (fun p hp=>hS.lt p (by rw [hs];exact List.mem_cons_of_mem _ hp)) (fun p hp=>hS.len p (by rw [hs];exact List.mem_cons_of_mem _ hp)) hS.ne hlt ?_ ?_,now_up _ (List.pairwise_cons.1 hd).2⟩
    · intro j x y hx hy
      by_cases hjn:n=j
      · subst hjn
        refine .inr ⟨fun p hp=>by have:=hd1 p hp;dsimp only at this;omega,?_⟩
        obtain ⟨r',h1,h2,-⟩:=E'.ext n (F x) y (by rw [hgs,List.getElem?_modify,hx];simp) hy
        rw [h1,hF,List.append_assoc]
        exact within_on r' i (fun z hz=>by have:=h2 z hz;omega) _ _ (hlt x (List.mem_of_getElem? hx))
      · obtain ⟨r',h1,h2,h3⟩:=E'.ext j x y (by rw [hgs,List.getElem?_modify,hx];simp [hjn]) hy
        refine .inl ⟨r',h1,fun z hz=>by have:=h2 z hz;omega,?_⟩
        rw [h3]
        rcases hst with ⟨a,-⟩ | ⟨e',a⟩
        · rw [a]
        · rw [a]
          constructor
          · intro q p hp;exact q p (List.mem_cons_of_mem _ hp)
          · intro q p hp
            rcases List.mem_cons.1 hp with rfl | hp
            · exact hjn
            · exact q p hp
    · intro j y hj hy
      exact hnew j y (by omega) hy
  · obtain rfl:=hpl hop hc
    refine ⟨in_now T i gs hS hlt E',now_up _ hS.desc⟩
theorem pl_run2 (c:Int) (gs:List G) (hne:∀ g ∈ gs,g.lines ≠ []):∀ (ks:List ByteArray) (S T:GS) (i:Nat),grun c S ks i=.inl T → T.gs=gs → T.st=[] → Good S → Sm S i →
    ∃ outs,plRun gs (nowOf S.st) i ks.length=some outs∧outs.length=ks.length ∧
      ∀ (j:Nat) (o:List (Int × Int)),outs[j]? = some o → InOf gs o ((i + j:Nat):Int)∧OkOut gs.length gs.length o∧o.Pairwise fun p q=>p.1 < q.1
  | [],S,T,i,h,hg,hst,hS,hm=>⟨[],rfl,rfl,by simp⟩
  | k :: r,S,T,i,h,hg,hst,hS,hm=>by
    have E:=ext_run c gs (k :: r) S T i h hg hst hS
    unfold grun at h
    cases hq:gstep c S k i with
    | none=>rw [hq] at h;cases h
    | some U =>
      rw [hq] at h
      have hU:=good_step c S U k i hq hS
      have E':=ext_run c gs r U T (i + 1) h hg hst hU
      have hlt:∀ g ∈ S.gs,∀ x ∈ g.lines,x < (i:Int):=fun g hg x hx=>((hm.2 g hg).2 x hx).2
      obtain ⟨o,h1,h2,h3⟩:=pl_step c S U k i gs hq hS hlt E E' hne
      obtain ⟨outs,k1,k2,k4⟩:=pl_run2 c gs hne r U T (i + 1) h hg hst hU (sm_step c S U k i hq hm)
      have hin:=pl_in c S U k i gs o hq hS hlt E E' h1 h3
      have hok:OkOut gs.length gs.length o:=by
        have hok:=ok_now S gs hS E.len
        rcases h2 with rfl | rfl
        · exact hok
        · refine ⟨by rw [List.length_dropLast];have:=hok.1;omega,fun p hp=>hok.2 p (List.dropLast_subset _ hp)⟩
      refine ⟨o :: outs,?_,by simp [k2],?_⟩
      · rw [List.length_cons]
        unfold plRun
        rw [h1]
        dsimp only
        rw [k1];rfl
      · intro j o' ho'
        cases j with
        | zero =>
          simp at ho'
          subst ho'
          exact ⟨hin.1,hok,hin.2⟩
        | succ j =>
          have:=k4 j o' (by simpa using ho')
          rw [show i + (j + 1)=i + 1 + j by omega]
          exact this
def ofR (i:Int):List G → Nat → List (Int × Int)
  | [],_=>[]
  | g :: r,m=>if 0 ≤ withinL g.lines i 0 then ((m:Int),withinL g.lines i 0) :: ofR i r (m + 1) else ofR i r (m + 1)
theorem ofR_eq (i:Int):∀ (gs:List G) (m:Nat) (o:List (Int × Int)),(o.Pairwise fun p q=>p.1 < q.1) → (∀ p ∈ o,(m:Int) ≤ p.1∧p.1 < ((m + gs.length:Nat):Int)) →
    (∀ (j:Nat) (y:G),gs[j]? = some y → (∀ b:Int,(((m + j:Nat):Int),b) ∈ o → withinL y.lines i 0=b∧0 ≤ b)∧((∀ b:Int,(((m + j:Nat):Int),b) ∉ o) → withinL y.lines i 0 = -1)) → o=ofR i gs m
  | [],m,o,h1,h2,h3=>by
    unfold ofR
    cases o with
    | nil=>rfl
    | cons p r=>have:=h2 p (by simp);simp at this;omega
  | g :: gs,m,o,h1,h2,h3=>by
    have h30:=h3 0 g rfl
    rw [Nat.add_zero] at h30
    unfold ofR
    have key:∀ o':List (Int × Int),List.Sublist o' o → (∀ p ∈ o',((m + 1:Nat):Int) ≤ p.1) → (∀ p ∈ o,((m + 1:Nat):Int) ≤ p.1 → p ∈ o') → o'=ofR i gs (m + 1):=by
      intro o' hs hge hsup
      refine ofR_eq i gs (m + 1) o' (h1.sublist hs) (fun p hp=>⟨hge p hp,by have:=(h2 p (hs.subset hp)).2;rw [List.length_cons] at this;omega⟩) ?_
      intro j y hy
      have:=h3 (j + 1) y (by simpa using hy)
      rw [show m + (j + 1)=m + 1 + j by omega] at this
      refine ⟨fun b hb=>this.1 b (hs.subset hb),fun hb=>this.2 fun b hb2=>hb b (hsup _ hb2 (by dsimp only;omega))⟩
    cases o with
    | nil =>
      rw [if_neg (by rw [h30.2 fun b=>by simp];decide)]
      exact key [] (List.Sublist.refl _) (by simp) (by simp)
    | cons p r =>
      have hp:=h2 p (by simp)
      have hr:=(List.pairwise_cons.1 h1).1
      by_cases he:p.1=(m:Int)
      · obtain ⟨a,b⟩:=h30.1 p.2 (by rw [← he];simp)
        rw [if_pos (by omega),a]
        rw [← key r (List.sublist_cons_self _ _) (fun q hq=>by have:=hr q hq;omega) (fun q hq hge=>by
          rcases List.mem_cons.1 hq with rfl | hq
          · omega
          · exact hq),← he]
      · rw [if_neg (by rw [h30.2 fun b hb=>by
          rcases List.mem_cons.1 hb with hb | hb
          · rw [← hb] at he;exact he rfl
          · have:=hr _ hb;dsimp only at this;omega];decide)]
        exact key (p :: r) (List.Sublist.refl _) (fun q hq=>by
          rcases List.mem_cons.1 hq with rfl | hq
          · omega
          · have:=hr q hq;omega) (fun q hq _=>hq)
theorem of_law (ks:List ByteArray) (h:(groups ks).2.1=0):∃ outs,places (groups ks).1 ks.length=some outs∧outs.length=ks.length∧∀ (j:Nat) (o:List (Int × Int)),outs[j]? = some o → o=ofR (j:Int) (groups ks).1 0∧OkOut (groups ks).1.length (groups ks).1.length o:=by
  unfold groups groupsC at h ⊢
  split at h
  · cases h
  · rename_i hn
    rw [if_neg hn]
    cases hg:grun 0 gs0 ks 0 with
    | inr i=>rw [hg] at h;cases h
    | inl S =>
      rw [hg] at h
      dsimp only at h ⊢
      split at h
      · rename_i hst
        rw [if_pos hst]
        have hst:=List.isEmpty_iff.1 hst
        have hgd:=good_run 0 ks gs0 S 0 hg good0
        obtain ⟨outs,k1,k2,k3⟩:=pl_run2 0 S.gs hgd.ne ks gs0 S 0 hg rfl hst good0 sm0
        refine ⟨outs,k1,k2,fun j o a => ?_⟩
        obtain ⟨q1,q2,q3⟩:=k3 j o a
        rw [Nat.zero_add] at q1
        refine ⟨ofR_eq _ S.gs 0 o q3 (fun p hp=>by have:=q2.2 p hp;rw [Nat.zero_add];exact this) ?_,q2⟩
        intro j' y hy
        rw [Nat.zero_add]
        exact q1 j' y hy
      · cases h
end Lx
theorem ofR_len (i:Int):∀ (gs:List Lx.G) (m:Nat),(Lx.ofR i gs m).length ≤ gs.length
  | [],m=>Nat.le_refl _
  | g :: r,m=>by
    unfold Lx.ofR
    have:=ofR_len i r (m + 1)
    split <;> simp <;> omega
theorem ofR_snoc (i:Int) (g:Lx.G):∀ (gs:List Lx.G) (m:Nat),Lx.ofR i (gs ++ [g]) m=Lx.ofR i gs m ++ (if 0 ≤ Lx.withinL g.lines i 0 then [(((m + gs.length:Nat):Int),Lx.withinL g.lines i 0)] else [])
  | [],m=>by simp [Lx.ofR]
  | x :: r,m=>by
    simp only [List.cons_append,Lx.ofR,ofR_snoc i g r (m + 1),List.length_cons]
    rw [show m + 1 + r.length=m + (r.length + 1) by omega]
    split <;> simp
theorem pairCells_snoc (a:List (Int × Int)) (p:Int × Int):pairCells (a ++ [p])=pairCells a ++ [.int .i64 p.1,.int .i64 p.2]:=by
  unfold pairCells
  rw [List.flatMap_append];rfl
set_option maxRecDepth 100000 in
set_option maxHeartbeats 8000000 in
theorem refof_range (v:Value) (L:List Lx.Tok) (w:World) (hT:Tks w v L) (hlen:L.length ≤ 100000) (hs:∀ t ∈ L,t.t.size ≤ 20000) (i:Int) (hi:i < 0 ∨ (L.length:Int) ≤ i) (hE:(Lx.groups (L.map Lx.kindOf)).2.1=0) :
    Calls Tryz.prog 31 #[v,.int .i64 i] w fun e w'=>e=.returned (.tuple #[.slice none 0 0,.int .i64 1])∧Below w.heap.size w w':=by
  have hg:=refGroups_calls v L w hT hlen hs
  rw [hE] at hg
  have HG:=mkA hg
  obtain ⟨A,c,rfl,-⟩:=hT
  obtain ⟨n,hn⟩:∃ n,L.length=n:=⟨_,rfl⟩
  rw [hn] at HG hi ⊢
  clear hg hE hs hn hlen
  by_cases h0:i < 0
  · have hi0:decide (i < 0)=true:=decide_eq_true h0
    go_enter Tryz.func31,Tryz.ntmps31
    go_wp2_with (first | (go_at_call 17;(refine HG.out.mono ?_);rintro e w1 ⟨gv,rfl,hgrp,hb⟩;have HB:=mkA hb;clear hgrp hb))
    go_ret2
    exact ⟨rfl,HB.out⟩
  · have hi0:decide (i < 0)=false:=decide_eq_false h0
    have hi1:decide ((n:Int) ≤ i)=true:=decide_eq_true (by omega)
    go_enter Tryz.func31,Tryz.ntmps31
    go_wp2_with (first | (go_at_call 17;(refine HG.out.mono ?_);rintro e w1 ⟨gv,rfl,hgrp,hb⟩;have HB:=mkA hb;clear hgrp hb))
    go_ret2
    exact ⟨rfl,HB.out⟩
set_option maxRecDepth 100000 in
set_option maxHeartbeats 8000000 in
theorem refof_ok (v:Value) (L:List Lx.Tok) (w:World) (hT:Tks w v L) (hlen:L.length ≤ 30000) (hs:∀ t ∈ L,t.t.size ≤ 20000) (i:Int) (hi:0 ≤ i∧i < (L.length:Int)) (hE:(Lx.groups (L.map Lx.kindOf)).2.1=0) (OUT:List (Int × Int)) (hO:OUT=Lx.ofR i (Lx.groups (L.map Lx.kindOf)).1 0) :
    Calls Tryz.prog 31 #[v,.int .i64 i] w fun e w' => ∃ rv,e=.returned (.tuple #[rv,.int .i64 0])∧w'.ownsRow w.heap.size 58 2 rv OUT.length (pairCells OUT)∧Below w.heap.size w w':=by
  have hgr:=refGroups_calls v L w hT (by omega) hs
  have hsm:Lx.Small (Lx.groups (L.map Lx.kindOf)).1:=Lx.groups_small 0 (L.map Lx.kindOf) (by rw [List.length_map];omega)
  rw [hE] at hgr
  obtain ⟨gs,hgs⟩:∃ gs,(Lx.groups (L.map Lx.kindOf)).1=gs:=⟨_,rfl⟩
  rw [hgs] at hgr hsm hO
  obtain ⟨gn,hgn⟩:∃ gn,gs.length=gn:=⟨_,rfl⟩
  have hgl:=hsm.1
  rw [hgn] at hgl
  have HO:=mkA hO
  have HGN:=mkA hgn
  have HGR:=mkA hgr
  have HSM:=mkA hsm
  obtain ⟨A,c,rfl,-⟩:=hT
  obtain ⟨n,hn⟩:∃ n,L.length=n:=⟨_,rfl⟩
  rw [hn] at HGR hlen hi ⊢
  obtain ⟨q1,q2⟩:=hi
  have hi0:decide (i < 0)=false:=decide_eq_false (by omega)
  have hi1:decide ((n:Int) ≤ i)=false:=decide_eq_false (by omega)
  clear hs hE hgr hgs hgn hn hsm hO
  go_enter Tryz.func31,Tryz.ntmps31
  go_wp2_with (go_at_call 17;(refine HGR.out.mono ?_);rintro e w2 ⟨gv,rfl,hgrp,hb⟩;have HGRP:=mkA hgrp;have HB:=mkA hb;have hgv:∃ A c,gv=.slice A gn c:=(by obtain ⟨ls,e1,e2,e3⟩:=hgrp;exact own_slice (own_cast e2 HGN.out));obtain ⟨GA,GC,rfl⟩:=hgv;have hszz:=hb.size;clear hgrp hb)
  have HBW2:=HB
  obtain ⟨b2,hb2⟩:∃ b2,w2.heap.size=b2:=⟨_,rfl⟩
  have HB2:=mkA hb2
  have hsb:b2 ≤ w2.heap.size:=by omega
  have hwb2:w.heap.size ≤ b2:=by omega
  clear hb2 hszz
  go_loopg [9,10] gn (fun kq v9 v10 W => ∃ (j:Nat) (acc:List (Int × Int)),v10=.int .i64 j∧Aside0 (j ≤ gn∧kq=gn - j∧acc=Lx.ofR i (gs.take j) 0∧acc.length ≤ j)∧Aside0 (W.ownsRow b2 58 2 v9 acc.length (pairCells acc))∧Aside0 (Below b2 w2 W)∧b2 ≤ W.heap.size)
  case atStart=>exact ⟨0,[],rfl,⟨by omega,rfl,by simp [Lx.ofR],by simp⟩,⟨own_nil _ _ _ _⟩,⟨Below.refl _ _⟩,hsb⟩
  case round =>
    obtain ⟨j,acc,rfl,HJ,HACC0,HBK,hszk⟩:=hrel
    have hj:=HJ.out.1
    have hj0:(0:Int) ≤ (j:Int):=Int.natCast_nonneg _
    obtain ⟨al,hal⟩:∃ al,acc.length=al:=⟨_,rfl⟩
    have HAL:=mkA hal
    have HACC:=mkA (own_cast HACC0.out hal)
    have hall:al ≤ 100000:=by have:=HJ.out.2.2.2;omega
    clear hal
    by_cases hlt:j < gn
    · obtain ⟨g,hg⟩:∃ g,gs[j]? = some g:=⟨_,List.getElem?_eq_getElem (by have:=HGN.out;omega)⟩
      have hgm:=List.mem_of_getElem? hg
      obtain ⟨gb,c',gl,cl,hgv,a0,a1,a2,a3,hl0,hlc,hcm,hglb,hgbb,hat⟩:=HGRP.out.at j g hg
      simp only [Value.slice.injEq] at hgv
      obtain ⟨rfl,-,rfl⟩:=hgv
      have hgb2:gb < b2:=by have:=HB2.out;omega
      have hgl2:gl < b2:=by have:=HB2.out;omega
      have a0:=(HBK.out.cell (p:=⟨gb,_,none⟩) hgb2).trans a0
      have a1:=(HBK.out.cell (p:=⟨gb,_,none⟩) hgb2).trans a1
      have a2:=(HBK.out.cell (p:=⟨gb,_,none⟩) hgb2).trans a2
      have a3:=(HBK.out.cell (p:=⟨gb,_,none⟩) hgb2).trans a3
      have hgbw:gb < wr.heap.size:=by omega
      have hlsm:=(HSM.out.2 g hgm).1
      obtain ⟨m,hm⟩:∃ m,g.lines.length=m:=⟨_,rfl⟩
      have hx:Lx.ofR i (gs.take (j + 1)) 0=acc ++ (if 0 ≤ Lx.withinL g.lines i 0 then [((j:Int),Lx.withinL g.lines i 0)] else []):=by
        rw [take_snoc gs j g hg,ofR_snoc,HJ.out.2.2.1,List.length_take,Nat.zero_add,Nat.min_eq_left (by have:=HGN.out;omega)]
      have hwc:=within_calls gl m cl g.br g.par g.bch i g.lines wr hm (by omega) (by omega) (fun a b hab=>(HBK.out.cell (p:=⟨gl,_,none⟩) hgl2).trans (hat a b hab)) (by omega)
      have HWC:=mkA hwc
      have HX:=mkA hx
      obtain ⟨W,hW⟩:∃ W,Lx.withinL g.lines i 0=W:=⟨_,rfl⟩
      rw [hW] at HWC HX
      rw [hm] at a0
      clear hg hgm hat hlsm hwc hx hl0 hlc hcm hglb hgbb hm hW
      by_cases hw0:0 ≤ W
      · have hd:decide (0 ≤ W)=true:=decide_eq_true hw0
        have HX:=mkA (HX.out.trans (by rw [if_pos hw0]))
        go_wp2_with (first | (go_at_call 49;(refine (HWC.out).mono ?_);rintro e w3 ⟨rfl,hg3⟩;have HACC3:=mkA (own_kept_no HACC.out hg3);have HBK3:=mkA (HBK.out.grown hg3 hszk (fun k hk=>by cases hk));have hsz3:=hg3.size;clear hg3) | (at_builtin;refine print_append_cells (w0:=w2) (W:=w3) b2 rfl (.tmp 43) (.tmp 47) 55 58 (.agg #[.int .i64 0,.int .i64 0]) 2 16 rfl Tryz.underlying55 info58 rfl (by decide) (by decide) u9 al (pairCells acc) [.int .i64 j,.int .i64 W] (by rfl) (by simp [Act.eval]) rfl (by simp [Value.oneCell']) HACC3.out HBK3.out (by omega) (by omega) ?_;intro v6 w6 hv6 hb6 hg6 hat6;have HV6:=mkA hv6;have HB6:=mkA hb6;have hsz6:=hg6.size;clear hv6 hb6 hg6 hat6))
        go_roundg (gn - (j + 1))
        case measure=>have:=HJ.out;omega
        case rel =>
          refine ⟨j + 1,acc ++ [((j:Int),W)],by go_num,⟨by omega,rfl,HX.out.symm,by rw [List.length_append,List.length_singleton];have:=HJ.out.2.2.2;omega⟩,⟨?_⟩,HB6,by omega⟩
          rw [pairCells_snoc,List.length_append,List.length_singleton,HAL.out]
          exact HV6.out
      · have hd:decide (0 ≤ W)=false:=decide_eq_false hw0
        have HX:=mkA (HX.out.trans (by rw [if_neg hw0,List.append_nil]))
        go_wp2_with (first | (go_at_call 49;(refine (HWC.out).mono ?_);rintro e w3 ⟨rfl,hg3⟩;have HACC3:=mkA (own_kept_no HACC.out hg3);have HBK3:=mkA (HBK.out.grown hg3 hszk (fun k hk=>by cases hk));have hsz3:=hg3.size;clear hg3))
        go_roundg (gn - (j + 1))
        case measure=>have:=HJ.out;omega
        case rel=>exact ⟨j + 1,acc,by go_num,⟨by omega,rfl,HX.out.symm,by have:=HJ.out.2.2.2;omega⟩,⟨by rw [HAL.out];exact HACC3.out⟩,HBK3,by omega⟩
    · obtain rfl:j=gn:=by omega
      have e1:acc=OUT:=by rw [HO.out,HJ.out.2.2.1,List.take_of_length_le (by have:=HGN.out;omega)]
      have HE1:=mkA e1
      clear e1
      go_wp2_with fail
      go_ret2
      refine ⟨_,rfl,?_,HBW2.out.trans (HBK.out.mono hwb2)⟩
      rw [← HE1.out]
      have h5:=HACC0.out
      refine ⟨h5.1,?_⟩
      rcases h5.2 with h | ⟨g,cap,cur,h1,h2,h3⟩
      · exact .inl h
      · exact .inr ⟨g,cap,cur,h1,Nat.le_trans hwb2 h2,h3⟩
end Go.Proofs.YtjnafjgonoficaaGreatDoor
