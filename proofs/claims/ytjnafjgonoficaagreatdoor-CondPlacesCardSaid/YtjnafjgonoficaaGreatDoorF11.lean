/-
  The conditions of a group's branches, as the program makes them. Conditions: the tokens and the lines lie in memory; the tokens are short; the library's variables are as their text lays them.
-/
import Derived.Test.YtjnafjgonoficaaGreatDoorF09
import Derived.Test.YtjnafjgonoficaaGreatDoorF10
set_option linter.unusedVariables false
set_option linter.unusedSimpArgs false
namespace Go.Proofs.YtjnafjgonoficaaGreatDoor
open Go.RowKit Go.Proofs.YtjnafjgonoficaaGreatDoorW.PrintWords
namespace Lx
def askW (t:Tok):Bool:=decide (t.k=1) && !(t.t.toList == [100,101,102,105,110,101,100])
def namesW (ws:List Tok):List ByteArray:=(ws.filter askW).map (·.t)
def nameD (ws:List Tok):ByteArray:=match ws with
  | _ :: u :: _=>if u.k=1 then u.t else ⟨#[]⟩
  | _=>⟨#[]⟩
def isExpr (K:ByteArray):Bool:=K.toList == [105,102] || K.toList == [101,108,105,102]
def isDfn (K:ByteArray):Bool:=K.toList == [105,102,100,101,102] || K.toList == [105,102,110,100,101,102]
def headA (ws:List Tok):Nat:=match ws with | []=>0 | t :: _=>t.a.toNat
def condOf (t:Tok):Option Cn :=
  if isExpr (kindOf t)=true then some (.expr (t.t.extract (1 + headA (wdOf t) + (kindOf t).size) t.t.size) (namesW (wdOf t).tail))
  else if isDfn (kindOf t)=true then some (.dfn (nameD (wdOf t)) (kindOf t) (if (nameD (wdOf t)).toList.isEmpty=true then [] else [nameD (wdOf t)]))
  else none
def condsL (L:List Tok) (xs:List Int):List Cn:=xs.filterMap fun x=>(L[x.toNat]?).bind condOf
theorem condsL_snoc (L:List Tok) (xs:List Int) (x:Int) (t:Tok) (h:L[x.toNat]? = some t):condsL L (xs ++ [x])=condsL L xs ++ (condOf t).toList:=by
  unfold condsL
  rw [List.filterMap_append]
  simp only [List.filterMap_cons,List.filterMap_nil,h,Option.bind_some]
  cases condOf t <;> rfl
theorem nameD_two:∀ ws:List Tok,1 < ws.length → ∃ u:Tok,ws[1]? = some u∧nameD ws=if u.k=1 then u.t else ⟨#[]⟩
  | [],h=>by simp at h
  | [a],h=>by simp at h
  | a :: b :: r,_=>⟨b,rfl,rfl⟩
theorem nameD_one:∀ ws:List Tok,ws.length ≤ 1 → nameD ws=⟨#[]⟩
  | [],_=>rfl
  | [a],_=>rfl
  | a :: b :: r,h=>by simp at h
theorem wdOf_len (t:Tok):(wdOf t).length ≤ t.t.size + 1:=by
  unfold wdOf
  split
  · have:=wd_len (t.t.extract 1 t.t.size) 0
    rw [ByteArray.size_extract] at this
    omega
  · simp
theorem condsL_len (L:List Tok) (xs:List Int):(condsL L xs).length ≤ xs.length:=List.length_filterMap_le _ _
end Lx
theorem cn_add {w:World} {base:Nat} {ps:List (Value × Value)} {cl:List Lx.Cn} (h:CnOf w base ps cl) (hl:ps.length=cl.length) {p:Value × Value} {c:Lx.Cn} (h1:FunAt w p.1 c) (h2:w.ownsRow base 9 1 p.2 c.names.length (c.names.map Value.string)):CnOf w base (ps ++ [p]) (cl ++ [c]):=by
  intro i q d e1 e2
  by_cases hi:i < ps.length
  · rw [List.getElem?_append_left hi] at e1
    rw [List.getElem?_append_left (by omega)] at e2
    exact h i q d e1 e2
  · rw [List.getElem?_append_right (by omega)] at e1 e2
    have hb:=(List.getElem?_eq_some_iff.1 e1).1
    rw [List.length_singleton] at hb
    rw [show i - ps.length=0 by omega] at e1
    rw [← hl,show i - ps.length=0 by omega] at e2
    simp at e1 e2
    subst e1 e2
    exact ⟨h1,h2⟩
theorem cnCells_add (ps:List (Value × Value)) (p:Value × Value):cnCells (ps ++ [p])=cnCells ps ++ [p.1,p.2]:=by unfold cnCells;rw [List.flatMap_append];rfl
theorem info102:(Tryz.prog.info? 102).map (fun i=>(i.zero,i.size,i.bytes))=some (some (.agg #[.nilFunc,.slice none 0 0]),2,32):=by kernel_rfl
theorem info9:(Tryz.prog.info? 9).map (fun i=>(i.zero,i.size,i.bytes))=some (some (.string ⟨#[]⟩),1,16):=by kernel_rfl
theorem own_at {w:World} {base:Nat} {v:Value} {ws:List Lx.Tok} {N:Nat} (h:w.ownsRow base 29 4 v N (tokCells ws)) (hN:ws.length=N) {i:Nat} {u:Lx.Tok} (hu:ws[i]? = some u):∃ g c,v=.slice (some ⟨g,0,none⟩) N c∧N ≤ c∧base ≤ g∧g < w.heap.size ∧
    w.cell? ⟨g,i * 4,none⟩=some (.int .i64 u.k)∧w.cell? ⟨g,i * 4 + 1,none⟩=some (.string u.b)∧w.cell? ⟨g,i * 4 + 2,none⟩=some (.string u.t)∧w.cell? ⟨g,i * 4 + 3,none⟩=some (.int .i64 u.a):=by
  have hc:=fun g=>h.cells (g:=g)
  have hi:=(List.getElem?_eq_some_iff.1 hu).1
  rcases h.2 with ⟨e,hn⟩ | ⟨g,cap,cur,e,hb,hh,h1,-⟩
  · omega
  · obtain ⟨e0,e1,e2,e3⟩:=tokCells_at ws i u hu
    have k0:=hc g (by rw [e];rfl) _ _ e0
    have k1:=hc g (by rw [e];rfl) _ _ e1
    have k2:=hc g (by rw [e];rfl) _ _ e2
    have k3:=hc g (by rw [e];rfl) _ _ e3
    rw [add_none,Nat.zero_add] at k0 k1 k2 k3
    exact ⟨g,cap,e,h1,hb,(Array.getElem?_eq_some_iff.1 hh).1,k0,k1,k2,k3⟩
theorem row_lit {W:World} {base b:Nat} {s:ByteArray} (hb:W.heap.size=b) (h:base ≤ b):(W.alloc (.cells #[.string s] 9)).ownsRow base 9 1 (.slice (some ⟨b,0,none⟩) 1 1) 1 [.string s]:=by
  subst hb
  exact own_lower (World.ownsRow_lit W #[.string s] 1 (Nat.le_refl _) (by unfold maxLen;omega) rfl) h
theorem ga2 (w:World) (a b:Obj):w.grownBy ((w.alloc a).alloc b) none:=grown_trans (World.grownBy_alloc w a none) (World.grownBy_alloc _ b none)
theorem ga3 (w:World) (a b c:Obj):w.grownBy (((w.alloc a).alloc b).alloc c) none:=grown_trans (ga2 w a b) (World.grownBy_alloc _ c none)
theorem own_row_ty {w:World} {base:Nat} {size n:Nat} {v:Value} {xs:List Value} (h:w.ownsRow base 102 size v n xs):∀ k cs t,v.ownBlock=some k → w.heap[k]? = some (.cells cs t (0,0)) → t ≠ 9:=by
  intro k cs t e hk
  rcases h.2 with ⟨rfl,-⟩ | ⟨g,cap,cur,rfl,hb,hh,-,-,-,-⟩
  · cases e
  · have e:some g=some k:=e
    rw [← Option.some.inj e,hh] at hk
    simp only [Option.some.injEq,Obj.cells.injEq] at hk
    rw [← hk.2.1];decide
theorem dfn_fun (w3:World) (K nm:ByteArray) (l:List ByteArray) (o:Obj):FunAt (((w3.alloc (.cells #[.string K] 9)).alloc (.cells #[.string nm] 9)).alloc o) (.func (.func 90) #[] #[.pointer (some ⟨w3.heap.size + 1,0,none⟩),.pointer (some ⟨w3.heap.size,0,none⟩)]) (.dfn nm K l):=by
  have h1:=blk_new w3 (.cells #[.string K] 9)
  have h2:=blk_new_at (w3.alloc (.cells #[.string K] 9)) (.cells #[.string nm] 9) (w3.heap.size + 1) (by simp)
  refine ⟨w3.heap.size + 1,w3.heap.size,rfl,?_,?_⟩
  · exact ((World.grownBy_alloc _ o none).block _ (blk_lt h2) (by simp)).trans h2
  · exact ((ga2 _ _ o).block _ (blk_lt h1) (by simp)).trans h1
theorem cns_add {W w6:World} {base:Nat} {v v6:Value} {ps:List (Value × Value)} {cl:List Lx.Cn} {c:Lx.Cn} {fv nv:Value} (hl:ps.length=cl.length) (hown:W.ownsRow base 102 2 v cl.length (cnCells ps)) (hof:CnOf W base ps cl)
    (hf:FunAt W fv c) (hn:W.ownsRow base 9 1 nv c.names.length (c.names.map Value.string)) (h6:w6.ownsRow base 102 2 v6 (cl.length + 1) (cnCells ps ++ [fv,nv])) (hg6:W.grownBy w6 v.ownBlock):Cns w6 base v6 (cl ++ [c]):=by
  refine ⟨ps ++ [(fv,nv)],by simp [hl],?_,?_⟩
  · rw [List.length_append,List.length_singleton,cnCells_add]
    exact h6
  · exact (cn_add hof hl hf hn).kept hg6 (own_row_ty hown)
theorem Cns.lower {w:World} {base base':Nat} {v:Value} {cl:List Lx.Cn} (h:Cns w base v cl) (hb:base' ≤ base):Cns w base' v cl:=by
  obtain ⟨ps,h1,h2,h3⟩:=h
  exact ⟨ps,h1,own_lower h2 hb,fun i p c e1 e2=>⟨(h3 i p c e1 e2).1,own_lower (h3 i p c e1 e2).2 hb⟩⟩
theorem grown_via {w W5 w2:World} {kb:Nat} (hg:w.grownBy W5 none) (hb:Below kb W5 w2) (hk:w.heap.size ≤ kb):w.grownBy w2 none :=
  ⟨hb.os.trans hg.os,hb.tape.trans hg.tape,hb.output.trans hg.output,Nat.le_trans hg.size hb.size,fun k h h2=>(hb.block k (by omega)).trans (hg.block k h h2)⟩
theorem namesW_snoc (l:List Lx.Tok) (u:Lx.Tok):Lx.namesW (l ++ [u])=Lx.namesW l ++ (if Lx.askW u=true then [u.t] else []):=by
  unfold Lx.namesW
  rw [List.filter_append,List.map_append]
  congr 1
  cases h:Lx.askW u <;> simp [List.filter_cons,h]
theorem namesW_len (l:List Lx.Tok):(Lx.namesW l).length ≤ l.length:=by
  unfold Lx.namesW
  rw [List.length_map]
  exact List.length_filter_le _ _
theorem own_oneCell {w:World} {base n:Nat} {e:TypeId} {size:Nat} {v:Value} {xs:List Value} (h:w.ownsRow base e size v n xs):v.oneCell'=true:=by
  obtain ⟨A,c,rfl⟩:=own_slice h;rfl
set_option maxRecDepth 100000 in
set_option maxHeartbeats 8000000 in
theorem conds_calls (w:World) (tv lv:Value) (L:List Lx.Tok) (lines:List Int) (br par bch:Int) (m:Nat) (hT:Tks w tv L) (hI:Ints w lv lines) (hm:lines.length=m + 1) (hm5:m ≤ 100000) (hin:∀ x ∈ lines,0 ≤ x∧x < (L.length:Int)) (hlen:L.length ≤ 100000) (hs:∀ t ∈ L,t.t.size ≤ 20000) (hmx:MaxLen w) (hbl:Blanks w) (h5:5 ≤ w.heap.size)
    (hW:∀ x ∈ lines,∀ t,L[x.toNat]? = some t → Lx.isExpr (Lx.kindOf t)=true → ∃ (w0:Lx.Tok) (r:List Lx.Tok) (p:Nat),Lx.wdOf t=w0 :: r∧w0.a=(p:Int)∧1 + p + (Lx.kindOf t).size ≤ t.t.size) :
    Calls Tryz.prog 53 #[tv,.agg #[lv,.int .i64 br,.int .i64 par,.int .i64 bch]] w fun e w' => ∃ v,e=.returned v∧Cns w' w.heap.size v (Lx.condsL L (lines.take m))∧Below w.heap.size w w':=by
  have hB1:Below w.heap.size w (w.alloc (.cells #[lv,.int .i64 br,.int .i64 par,.int .i64 bch] 41)):=(Below.refl _ _).alloc (Nat.le_refl _) _
  obtain ⟨A,C,rfl,hc1,hc2,hA⟩:=hT
  obtain ⟨n,hn⟩:∃ n,L.length=n:=⟨_,rfl⟩
  obtain ⟨LA,LC,rfl,hd1,hd2,hLA⟩:=hI
  rw [hm] at hd1
  have HIN:=mkA hin
  have HN:=mkA hn
  have HM:=mkA hm
  have HW:=mkA hW
  have HS:=mkA hs
  have HMX:=mkA hmx
  have HBL:=mkA hbl
  have HA:=mkA hA
  have HLA:=mkA hLA
  have H5:=mkA h5
  obtain ⟨b,hb⟩:∃ b,w.heap.size=b:=⟨_,rfl⟩
  have HB:=mkA hb
  unfold maxLen at hc2 hd2
  rw [hn] at hc1 hlen ⊢
  rw [hm]
  have hmc:((m + 1:Nat):Int)=(m:Int) + 1:=by omega
  have hm1:IntKind.i64.wrap ((m:Int) + 1 - 1)=(m:Int):=by rw [show (m:Int) + 1 - 1=m by omega];exact IntWalk.i64_in _ (by omega)
  clear hn hm hW hs hmx hbl hA hLA hin hB1 h5 hb
  go_enter Tryz.func53,Tryz.ntmps53
  go_wp2_with fail
  go_loopg [5,25] m (fun kq v5 v25 W => ∃ (i:Nat) (cl:List Lx.Cn),v25=.int .i64 i∧Aside0 (i ≤ m∧kq=m - i∧cl=Lx.condsL L (lines.take i))∧Aside0 (Cns W (w.heap.size + 1) v5 cl)∧Aside0 (Below (w.heap.size + 1) (w.alloc (.cells #[.slice LA (m + 1) LC,.int .i64 br,.int .i64 par,.int .i64 bch] 41)) W)∧w.heap.size + 1 ≤ W.heap.size)
  case atStart=>exact ⟨0,[],rfl,⟨by omega,rfl,rfl⟩,⟨[],rfl,own_nil _ _ _ _,fun i p c h=>by simp at h⟩,⟨Below.refl _ _⟩,by simp⟩
  case round =>
    obtain ⟨i,cl,rfl,HI,HC,HW2,hsz⟩:=hrel
    have hi:=HI.out.1
    have hi0:(0:Int) ≤ (i:Int):=Int.natCast_nonneg _
    have hbw:Below w.heap.size w wr:=((Below.refl w.heap.size w).alloc (Nat.le_refl _) (.cells #[.slice LA (m + 1) LC,.int .i64 br,.int .i64 par,.int .i64 bch] 41)).trans (HW2.out.mono (Nat.le_succ _))
    have HBW:=mkA hbw
    by_cases hlt:i < m
    · obtain ⟨x,hx⟩:∃ x,lines[i]? = some x:=⟨_,List.getElem?_eq_getElem (by have:=HM.out;omega)⟩
      have hxin:=HIN.out x (List.mem_of_getElem? hx)
      obtain ⟨k,rfl⟩:∃ k:Nat,x=(k:Int):=⟨x.toNat,by omega⟩
      have hkn:k < n:=by have:=HN.out;omega
      obtain ⟨t,ht⟩:∃ t,L[k]? = some t:=⟨_,List.getElem?_eq_getElem (by have:=HN.out;omega)⟩
      obtain ⟨lg,lo,rfl,hat,hlgl⟩:=HLA.out.resolve_left (fun e=>by rw [e] at hx;simp at hx)
      obtain ⟨g,o,rfl,hta,hgl⟩:=HA.out.resolve_left (fun e=>by rw [e] at ht;simp at ht)
      have l0:wr.cell? ⟨lg,lo + i,none⟩=some (.int .i64 k):=(hbw.cell hlgl).trans (hat i _ hx)
      obtain ⟨a0,a1,a2,a3⟩:=(hta.below hbw hgl) k t ht
      have hts:=HS.out t (List.mem_of_getElem? ht)
      have hlgr:lg < wr.heap.size:=Nat.lt_of_lt_of_le hlgl hbw.size
      have hgr:g < wr.heap.size:=Nat.lt_of_lt_of_le hgl hbw.size
      have hcn:=Lx.condsL_snoc L (lines.take i) (k:Int) t (by rw [Int.toNat_natCast];exact ht)
      rw [← take_snoc lines i _ hx,← HI.out.2.2] at hcn
      have hwd:∀ W,Below w.heap.size w W → Calls Tryz.prog 11 #[tokV t] W fun e w' => ∃ v,e=.returned (.tuple #[v,.int .i64 (if Lx.isDir t=true then 0 else 3)])∧w'.ownsRow W.heap.size 29 4 v (Lx.wdOf t).length (tokCells (Lx.wdOf t))∧Below W.heap.size W w':=fun W hb=>condWords_calls t W hts (HMX.out.belowN hb (by have:=H5.out;omega)) (HBL.out.below hb (by have:=H5.out;omega)) (by have:=hb.size;have:=H5.out;omega)
      have hkd:∀ W,Below w.heap.size w W → Calls Tryz.prog 13 #[tokV t] W fun e w'=>e=.returned (.string (Lx.kindOf t))∧Below W.heap.size W w':=fun W hb=>condKind_calls t W hts (HMX.out.belowN hb (by have:=H5.out;omega)) (HBL.out.below hb (by have:=H5.out;omega)) (by have:=hb.size;have:=H5.out;omega)
      unfold tokV at hwd hkd
      obtain ⟨er,her⟩:∃ er:Int,(if Lx.isDir t=true then 0 else 3)=er:=⟨_,rfl⟩
      rw [her] at hwd
      have hNl:=Lx.wdOf_len t
      obtain ⟨N,hN⟩:∃ N,(Lx.wdOf t).length=N:=⟨_,rfl⟩
      rw [hN] at hNl
      have hwx:=HW.out (k:Int) (List.mem_of_getElem? hx) t (by rw [Int.toNat_natCast];exact ht)
      have hcon:Lx.condOf t=Lx.condOf t:=rfl
      conv at hcon=>rhs;unfold Lx.condOf
      have HTA:=mkA (hta.below hbw hgl)
      have HT:=mkA ht
      obtain ⟨K,hK⟩:∃ K,Lx.kindOf t=K:=⟨_,rfl⟩
      obtain ⟨ws,hws⟩:∃ ws,Lx.wdOf t=ws:=⟨_,rfl⟩
      rw [hK] at hkd hwx hcon
      rw [hws] at hwd hwx hcon hN
      have HWN:=mkA hN
      have HWD:=mkA hwd
      have HKD:=mkA hkd
      clear hx hxin hat hta ht hwd hkd hK hws hlgl hgl her hN
      cases hE:Lx.isExpr K
      · have hE1:(K.toList == [105,102])=false:=by unfold Lx.isExpr at hE;rw [Bool.or_eq_false_iff] at hE;exact hE.1
        have hE2:(K.toList == [101,108,105,102])=false:=by unfold Lx.isExpr at hE;rw [Bool.or_eq_false_iff] at hE;exact hE.2
        rw [hE,if_neg Bool.false_ne_true] at hcon
        clear hwx hE
        cases hD:Lx.isDfn K
        · have hD1:(K.toList == [105,102,100,101,102])=false:=by unfold Lx.isDfn at hD;rw [Bool.or_eq_false_iff] at hD;exact hD.1
          have hD2:(K.toList == [105,102,110,100,101,102])=false:=by unfold Lx.isDfn at hD;rw [Bool.or_eq_false_iff] at hD;exact hD.2
          rw [hD,if_neg Bool.false_ne_true] at hcon
          rw [hcon] at hcn
          have HCN:=mkA hcn
          clear hcn hcon hD hbw
          go_wp2_with (first | (go_at_call 11;(refine (HWD.out _ HBW.out).mono ?_);rintro e w2 ⟨v2,rfl,hown2,hb2⟩;have hown2:=own_cast hown2 HWN.out;obtain ⟨A2,c2,rfl⟩:=own_slice hown2;have HO2:=mkA hown2;have HB2:=mkA hb2;have HBW2:=mkA (HBW.out.trans (hb2.mono HBW.out.size));obtain ⟨b0,b1,b2,b3⟩:=(HTA.out.below hb2 hgr) k t HT.out;have hgr2:g < w2.heap.size:=Nat.lt_of_lt_of_le hgr hb2.size;clear hown2 hb2) | (go_at_call 13;(refine (HKD.out _ HBW2.out).mono ?_);rintro e w3 ⟨rfl,hb3⟩;have HB3:=mkA hb3;have hsz3:=hb3.size;have HG3:=mkA (grown_below (grown_below (World.grownBy.refl wr none) HB2.out) hb3);clear hb3) )
          go_roundg (m - (i + 1))
          case measure=>have:=HI.out;omega
          case rel=>exact ⟨i + 1,cl,by go_num,⟨by omega,rfl,by rw [HCN.out];simp⟩,⟨((HC.out.below HB2.out).below HB3.out).no (World.grownBy_alloc _ _ none)⟩,⟨(((HW2.out.trans (HB2.out.mono hsz)).trans (HB3.out.mono (Nat.le_trans hsz HB2.out.size))).alloc (Nat.le_trans hsz (Nat.le_trans HB2.out.size HB3.out.size)) _)⟩,by have:=HB2.out.size;have:=HB3.out.size;simp;omega⟩
        · rw [hD,if_pos rfl] at hcon
          obtain ⟨q,hq⟩:∃ q,(K.toList == [105,102,100,101,102])=q:=⟨_,rfl⟩
          have hq2:(K.toList == [105,102,110,100,101,102]) = !q:=by
            unfold Lx.isDfn at hD
            rw [hq] at hD
            cases q
            · rw [Bool.false_or] at hD;exact hD
            · rw [beq_iff_eq.mp hq];rfl
          clear hD
          by_cases h1N:1 < N
          · have hd1N:decide ((1:Int) < (N:Int))=true:=decide_eq_true (by omega)
            have h1Ni:(1:Int) < (N:Int):=by omega
            obtain ⟨u,hu,hnu⟩:=Lx.nameD_two ws (by have:=HWN.out;omega)
            rw [hnu] at hcon
            have HU:=mkA hu
            have HIU:=mkA (isName_calls u)
            unfold tokV at HIU
            obtain ⟨uk,huk⟩:∃ uk,(u.k == 1)=uk:=⟨_,rfl⟩
            obtain ⟨ps,hps,hown,hof⟩:=HC.out
            have HPS:=mkA hps
            have HOWN:=mkA hown
            have HOF:=mkA hof
            have hcl:cl.length ≤ 100000:=by rw [HI.out.2.2];have:=Lx.condsL_len L (lines.take i);rw [List.length_take] at this;omega
            clear hps hown hof hu hnu
            cases uk
            · rw [if_neg (beq_eq_false_iff_ne.mp huk),if_pos (show (⟨#[]⟩:ByteArray).toList.isEmpty=true by rw [ByteArray.toList_eq];rfl)] at hcon
              rw [hcon] at hcn
              rw [huk] at HIU
              have HCN:=mkA hcn
              clear hcn hcon hbw huk
              cases q
              all_goals
                go_wp2_with (first | (go_at_call 11;(refine (HWD.out _ HBW.out).mono ?_);rintro e w2 ⟨v2,rfl,hown2,hb2⟩;have hown2:=own_cast hown2 HWN.out;(obtain ⟨g2,cp2,rfl,hcp2,hg2b,hg2l,o0,o1,o2,o3⟩:=own_at hown2 HWN.out HU.out);have HO2:=mkA hown2;have HB2:=mkA hb2;have HBW2:=mkA (HBW.out.trans (hb2.mono HBW.out.size));obtain ⟨b0,b1,b2,b3⟩:=(HTA.out.below hb2 hgr) k t HT.out;have hgr2:g < w2.heap.size:=Nat.lt_of_lt_of_le hgr hb2.size;simp only [Nat.one_mul,Nat.zero_mul,Nat.zero_add] at o0 o1 o2 o3;clear hown2 hb2) | (go_at_call 13;(refine (HKD.out _ HBW2.out).mono ?_);rintro e w3 ⟨rfl,hb3⟩;have c0:=(hb3.cell hg2l).trans o0;have c1:=(hb3.cell hg2l).trans o1;have c2:=(hb3.cell hg2l).trans o2;have c3:=(hb3.cell hg2l).trans o3;have hg3l:g2 < w3.heap.size:=Nat.lt_of_lt_of_le hg2l hb3.size;have t2:=(hb3.cell hgr2).trans b2;have hgr3:g < w3.heap.size:=Nat.lt_of_lt_of_le hgr2 hb3.size;(try rw [HP.out] at c3);have HB3:=mkA hb3;have hsz3:=hb3.size;have HG3:=mkA (grown_below (grown_below (World.grownBy.refl wr none) HB2.out) hb3);clear hb3 o0 o1 o2 o3) | (go_at_call 89;(refine (HIU.out _).mono ?_);rintro e w5 ⟨rfl,hg⟩;have K5:=mkA ((hg.block w3.heap.size (by simp;omega) (by simp)).trans (((World.grownBy_alloc _ (.cells #[.string ⟨#[]⟩] 9) none).block _ (by simp) (by simp)).trans (blk_new w3 (.cells #[.string K] 9))));have N5:=mkA ((hg.block (w3.heap.size + 1) (by simp) (by simp)).trans (blk_new_at (w3.alloc (.cells #[.string K] 9)) (.cells #[.string ⟨#[]⟩] 9) (w3.heap.size + 1) (by simp)));have hg35:=grown_trans (ga2 w3 (.cells #[.string K] 9) (.cells #[.string ⟨#[]⟩] 9)) hg;have hG5:=grown_trans HG3.out hg35;have HG5:=mkA hG5;have e0:w5.cell? ⟨w3.heap.size + 1,0,none⟩=some (.string ⟨#[]⟩):=(by rw [blk_cell N5.out];rfl);have z0:=blk_frozen N5.out 0;have hl5:=blk_lt N5.out;have d2:w5.cell? ⟨g2,4 + 2,none⟩=some (.string u.t):=hg.cell ((ga2 w3 (.cells #[.string K] 9) (.cells #[.string ⟨#[]⟩] 9)).cell c2 (by simp)) (by simp);have hg5l:g2 < w5.heap.size:=Nat.lt_of_lt_of_le hg3l hg35.size;have hwr5:wr.heap.size ≤ w3.heap.size:=HG3.out.size;clear hg hG5 hg35) | (at_builtin;(obtain ⟨fv,hfv⟩:∃ fv,Value.func (.func 90) #[] #[.pointer (some ⟨w3.heap.size + 1,0,none⟩),.pointer (some ⟨w3.heap.size,0,none⟩)]=fv:=⟨_,rfl⟩);rw [hfv];(obtain ⟨WW,hWW⟩:∃ WW,(w5.alloc (.cells #[fv,.slice none 0 0] 102))=WW:=⟨_,rfl⟩);rw [hWW];have hgW:wr.grownBy WW none:=(by rw [← hWW];exact grown_trans HG5.out (World.grownBy_alloc w5 (.cells #[fv,.slice none 0 0] 102) none));have hfu:FunAt WW fv (.dfn ⟨#[]⟩ K []):=(by rw [← hWW,← hfv];exact ⟨_,_,rfl,((World.grownBy_alloc w5 _ none).block _ (blk_lt N5.out) (by simp)).trans N5.out,((World.grownBy_alloc w5 _ none).block _ (blk_lt K5.out) (by simp)).trans K5.out⟩);have HFU:=mkA hfu;have HOWW:=mkA (own_kept_no HOWN.out hgW);have HOFW:=mkA (HOF.out.kept hgW (fun k cs t e=>by cases e));have HBWW:=mkA (HW2.out.grown hgW hsz (fun k hk=>by cases hk));have hszW:w.heap.size + 1 ≤ WW.heap.size:=Nat.le_trans hsz hgW.size;have HWS:Aside0 (WW.heap.size=w5.heap.size + 1):=⟨(by rw [← hWW];simp)⟩;have HFV:=mkA hfv;have HWW:=mkA hWW;clear hgW hfu hWW hfv;refine print_append_cells (w0:=(w.alloc (.cells #[.slice (some ⟨lg,lo,none⟩) (m + 1) LC,.int .i64 br,.int .i64 par,.int .i64 bch] 41))) (W:=WW) (w.heap.size + 1) rfl (.tmp 111) (.tmp 113) 98 102 (.agg #[.nilFunc,.slice none 0 0]) 2 32 rfl Tryz.underlying98 info102 rfl (by decide) (by decide) u5 cl.length (cnCells ps) [fv,.slice none 0 0] (by rfl) (by simp [Act.eval,HWS.out]) rfl (by rw [← HFV.out];simp [Value.oneCell']) HOWW.out HBWW.out hszW (by omega) ?_;intro v6 w6 hv6 hb6 hg6 hat6;have HV6:=mkA hv6;have HB6:=mkA hb6;have HG6:=mkA hg6;have hsz6:=hg6.size;clear hv6 hb6 hg6 hat6))
                go_roundg (m - (i + 1))
                case measure=>have:=HI.out;omega
                case rel=>exact ⟨i + 1,cl ++ [.dfn ⟨#[]⟩ K []],by go_num,⟨by omega,rfl,by rw [HCN.out];rfl⟩,⟨cns_add HPS.out HOWW.out HOFW.out HFU.out (own_nil _ _ _ _) HV6.out HG6.out⟩,HB6,by omega⟩
            · rw [if_pos (beq_iff_eq.mp huk)] at hcon
              rw [huk] at HIU
              cases hem:u.t.toList.isEmpty
              · rw [hem,if_neg Bool.false_ne_true] at hcon
                rw [hcon] at hcn
                have HCN:=mkA hcn
                clear hcn hcon hbw huk
                cases q
                all_goals
                  go_wp2_with (first | (go_at_call 11;(refine (HWD.out _ HBW.out).mono ?_);rintro e w2 ⟨v2,rfl,hown2,hb2⟩;have hown2:=own_cast hown2 HWN.out;(obtain ⟨g2,cp2,rfl,hcp2,hg2b,hg2l,o0,o1,o2,o3⟩:=own_at hown2 HWN.out HU.out);have HO2:=mkA hown2;have HB2:=mkA hb2;have HBW2:=mkA (HBW.out.trans (hb2.mono HBW.out.size));obtain ⟨b0,b1,b2,b3⟩:=(HTA.out.below hb2 hgr) k t HT.out;have hgr2:g < w2.heap.size:=Nat.lt_of_lt_of_le hgr hb2.size;simp only [Nat.one_mul,Nat.zero_mul,Nat.zero_add] at o0 o1 o2 o3;clear hown2 hb2) | (go_at_call 13;(refine (HKD.out _ HBW2.out).mono ?_);rintro e w3 ⟨rfl,hb3⟩;have c0:=(hb3.cell hg2l).trans o0;have c1:=(hb3.cell hg2l).trans o1;have c2:=(hb3.cell hg2l).trans o2;have c3:=(hb3.cell hg2l).trans o3;have hg3l:g2 < w3.heap.size:=Nat.lt_of_lt_of_le hg2l hb3.size;have t2:=(hb3.cell hgr2).trans b2;have hgr3:g < w3.heap.size:=Nat.lt_of_lt_of_le hgr2 hb3.size;(try rw [HP.out] at c3);have HB3:=mkA hb3;have hsz3:=hb3.size;have HG3:=mkA (grown_below (grown_below (World.grownBy.refl wr none) HB2.out) hb3);clear hb3 o0 o1 o2 o3) | (go_at_call 89;(refine (HIU.out _).mono ?_);rintro e w5 ⟨rfl,hg⟩;have K5:=mkA ((hg.block w3.heap.size (by simp;omega) (by simp)).trans (((World.grownBy_alloc _ (.cells #[.string ⟨#[]⟩] 9) none).block _ (by simp) (by simp)).trans (blk_new w3 (.cells #[.string K] 9))));have N5:=mkA ((hg.block (w3.heap.size + 1) (by simp) (by simp)).trans (blk_new_at (w3.alloc (.cells #[.string K] 9)) (.cells #[.string ⟨#[]⟩] 9) (w3.heap.size + 1) (by simp)));have hg35:=grown_trans (ga2 w3 (.cells #[.string K] 9) (.cells #[.string ⟨#[]⟩] 9)) hg;have hG5:=grown_trans HG3.out hg35;have HG5:=mkA hG5;have e0:w5.cell? ⟨w3.heap.size + 1,0,none⟩=some (.string ⟨#[]⟩):=(by rw [blk_cell N5.out];rfl);have z0:=blk_frozen N5.out 0;have hl5:=blk_lt N5.out;have d2:w5.cell? ⟨g2,4 + 2,none⟩=some (.string u.t):=hg.cell ((ga2 w3 (.cells #[.string K] 9) (.cells #[.string ⟨#[]⟩] 9)).cell c2 (by simp)) (by simp);have hg5l:g2 < w5.heap.size:=Nat.lt_of_lt_of_le hg3l hg35.size;have hwr5:wr.heap.size ≤ w3.heap.size:=HG3.out.size;clear hg hG5 hg35) | (at_builtin;(obtain ⟨fv,hfv⟩:∃ fv,Value.func (.func 90) #[] #[.pointer (some ⟨w3.heap.size + 1,0,none⟩),.pointer (some ⟨w3.heap.size,0,none⟩)]=fv:=⟨_,rfl⟩);rw [hfv];(obtain ⟨WW,hWW⟩:∃ WW,(((w5.setCell ⟨w3.heap.size + 1,0,none⟩ (.string u.t)).alloc (.cells #[fv,.slice (some ⟨w5.heap.size + 1,0,none⟩) 1 1] 102)).alloc (.cells #[.string u.t] 9))=WW:=⟨_,rfl⟩);rw [hWW];have hgW:wr.grownBy WW none:=(by rw [← hWW];exact grown_trans (grown_set_new HG5.out (Nat.le_succ_of_le hwr5) 0 (.string u.t)) (ga2 _ _ _));have hfu:FunAt WW fv (.dfn u.t K [u.t]):=(by rw [← hWW,← hfv];exact ⟨_,_,rfl,((ga2 _ _ _).block _ (by simp;omega) (by simp)).trans (blk_put N5.out 0 (.string u.t) rfl),((ga2 _ _ _).block _ (by simp;omega) (by simp)).trans (blk_far K5.out (by simp) _)⟩);have HFU:=mkA hfu;have HOWW:=mkA (own_kept_no HOWN.out hgW);have HOFW:=mkA (HOF.out.kept hgW (fun k cs t e=>by cases e));have HBWW:=mkA (HW2.out.grown hgW hsz (fun k hk=>by cases hk));have hszW:w.heap.size + 1 ≤ WW.heap.size:=Nat.le_trans hsz hgW.size;have HWS:Aside0 (WW.heap.size=w5.heap.size + 1 + 1):=⟨(by rw [← hWW];simp)⟩;have HFV:=mkA hfv;have HWW:=mkA hWW;clear hgW hfu hWW hfv;refine print_append_cells (w0:=(w.alloc (.cells #[.slice (some ⟨lg,lo,none⟩) (m + 1) LC,.int .i64 br,.int .i64 par,.int .i64 bch] 41))) (W:=WW) (w.heap.size + 1) rfl (.tmp 111) (.tmp 113) 98 102 (.agg #[.nilFunc,.slice none 0 0]) 2 32 rfl Tryz.underlying98 info102 rfl (by decide) (by decide) u5 cl.length (cnCells ps) [fv,.slice (some ⟨w5.heap.size + 1,0,none⟩) 1 1] (by rfl) (by simp [Act.eval,HWS.out]) rfl (by rw [← HFV.out];simp [Value.oneCell']) HOWW.out HBWW.out hszW (by omega) ?_;intro v6 w6 hv6 hb6 hg6 hat6;have HV6:=mkA hv6;have HB6:=mkA hb6;have HG6:=mkA hg6;have hsz6:=hg6.size;clear hv6 hb6 hg6 hat6))
                  go_roundg (m - (i + 1))
                  case measure=>have:=HI.out;omega
                  case rel=>exact ⟨i + 1,cl ++ [.dfn u.t K [u.t]],by go_num,⟨by omega,rfl,by rw [HCN.out];rfl⟩,⟨cns_add HPS.out HOWW.out HOFW.out HFU.out (by rw [← HWW.out];exact row_lit (by simp) (by omega)) HV6.out HG6.out⟩,HB6,by omega⟩
              · rw [hem,if_pos rfl] at hcon
                rw [hcon] at hcn
                have HCN:=mkA hcn
                clear hcn hcon hbw huk
                cases q
                all_goals
                  go_wp2_with (first | (go_at_call 11;(refine (HWD.out _ HBW.out).mono ?_);rintro e w2 ⟨v2,rfl,hown2,hb2⟩;have hown2:=own_cast hown2 HWN.out;(obtain ⟨g2,cp2,rfl,hcp2,hg2b,hg2l,o0,o1,o2,o3⟩:=own_at hown2 HWN.out HU.out);have HO2:=mkA hown2;have HB2:=mkA hb2;have HBW2:=mkA (HBW.out.trans (hb2.mono HBW.out.size));obtain ⟨b0,b1,b2,b3⟩:=(HTA.out.below hb2 hgr) k t HT.out;have hgr2:g < w2.heap.size:=Nat.lt_of_lt_of_le hgr hb2.size;simp only [Nat.one_mul,Nat.zero_mul,Nat.zero_add] at o0 o1 o2 o3;clear hown2 hb2) | (go_at_call 13;(refine (HKD.out _ HBW2.out).mono ?_);rintro e w3 ⟨rfl,hb3⟩;have c0:=(hb3.cell hg2l).trans o0;have c1:=(hb3.cell hg2l).trans o1;have c2:=(hb3.cell hg2l).trans o2;have c3:=(hb3.cell hg2l).trans o3;have hg3l:g2 < w3.heap.size:=Nat.lt_of_lt_of_le hg2l hb3.size;have t2:=(hb3.cell hgr2).trans b2;have hgr3:g < w3.heap.size:=Nat.lt_of_lt_of_le hgr2 hb3.size;(try rw [HP.out] at c3);have HB3:=mkA hb3;have hsz3:=hb3.size;have HG3:=mkA (grown_below (grown_below (World.grownBy.refl wr none) HB2.out) hb3);clear hb3 o0 o1 o2 o3) | (go_at_call 89;(refine (HIU.out _).mono ?_);rintro e w5 ⟨rfl,hg⟩;have K5:=mkA ((hg.block w3.heap.size (by simp;omega) (by simp)).trans (((World.grownBy_alloc _ (.cells #[.string ⟨#[]⟩] 9) none).block _ (by simp) (by simp)).trans (blk_new w3 (.cells #[.string K] 9))));have N5:=mkA ((hg.block (w3.heap.size + 1) (by simp) (by simp)).trans (blk_new_at (w3.alloc (.cells #[.string K] 9)) (.cells #[.string ⟨#[]⟩] 9) (w3.heap.size + 1) (by simp)));have hg35:=grown_trans (ga2 w3 (.cells #[.string K] 9) (.cells #[.string ⟨#[]⟩] 9)) hg;have hG5:=grown_trans HG3.out hg35;have HG5:=mkA hG5;have e0:w5.cell? ⟨w3.heap.size + 1,0,none⟩=some (.string ⟨#[]⟩):=(by rw [blk_cell N5.out];rfl);have z0:=blk_frozen N5.out 0;have hl5:=blk_lt N5.out;have d2:w5.cell? ⟨g2,4 + 2,none⟩=some (.string u.t):=hg.cell ((ga2 w3 (.cells #[.string K] 9) (.cells #[.string ⟨#[]⟩] 9)).cell c2 (by simp)) (by simp);have hg5l:g2 < w5.heap.size:=Nat.lt_of_lt_of_le hg3l hg35.size;have hwr5:wr.heap.size ≤ w3.heap.size:=HG3.out.size;clear hg hG5 hg35) | (at_builtin;(obtain ⟨fv,hfv⟩:∃ fv,Value.func (.func 90) #[] #[.pointer (some ⟨w3.heap.size + 1,0,none⟩),.pointer (some ⟨w3.heap.size,0,none⟩)]=fv:=⟨_,rfl⟩);rw [hfv];(obtain ⟨WW,hWW⟩:∃ WW,((w5.setCell ⟨w3.heap.size + 1,0,none⟩ (.string u.t)).alloc (.cells #[fv,.slice none 0 0] 102))=WW:=⟨_,rfl⟩);rw [hWW];have hgW:wr.grownBy WW none:=(by rw [← hWW];exact grown_trans (grown_set_new HG5.out (Nat.le_succ_of_le hwr5) 0 (.string u.t)) (World.grownBy_alloc _ (.cells #[fv,.slice none 0 0] 102) none));have hfu:FunAt WW fv (.dfn u.t K []):=(by rw [← hWW,← hfv];exact ⟨_,_,rfl,((World.grownBy_alloc _ _ none).block _ (by simp;omega) (by simp)).trans (blk_put N5.out 0 (.string u.t) rfl),((World.grownBy_alloc _ _ none).block _ (by simp;omega) (by simp)).trans (blk_far K5.out (by simp) _)⟩);have HFU:=mkA hfu;have HOWW:=mkA (own_kept_no HOWN.out hgW);have HOFW:=mkA (HOF.out.kept hgW (fun k cs t e=>by cases e));have HBWW:=mkA (HW2.out.grown hgW hsz (fun k hk=>by cases hk));have hszW:w.heap.size + 1 ≤ WW.heap.size:=Nat.le_trans hsz hgW.size;have HWS:Aside0 (WW.heap.size=w5.heap.size + 1):=⟨(by rw [← hWW];simp)⟩;have HFV:=mkA hfv;have HWW:=mkA hWW;clear hgW hfu hWW hfv;refine print_append_cells (w0:=(w.alloc (.cells #[.slice (some ⟨lg,lo,none⟩) (m + 1) LC,.int .i64 br,.int .i64 par,.int .i64 bch] 41))) (W:=WW) (w.heap.size + 1) rfl (.tmp 111) (.tmp 113) 98 102 (.agg #[.nilFunc,.slice none 0 0]) 2 32 rfl Tryz.underlying98 info102 rfl (by decide) (by decide) u5 cl.length (cnCells ps) [fv,.slice none 0 0] (by rfl) (by simp [Act.eval,HWS.out]) rfl (by rw [← HFV.out];simp [Value.oneCell']) HOWW.out HBWW.out hszW (by omega) ?_;intro v6 w6 hv6 hb6 hg6 hat6;have HV6:=mkA hv6;have HB6:=mkA hb6;have HG6:=mkA hg6;have hsz6:=hg6.size;clear hv6 hb6 hg6 hat6))
                  go_roundg (m - (i + 1))
                  case measure=>have:=HI.out;omega
                  case rel=>exact ⟨i + 1,cl ++ [.dfn u.t K []],by go_num,⟨by omega,rfl,by rw [HCN.out];rfl⟩,⟨cns_add HPS.out HOWW.out HOFW.out HFU.out (own_nil _ _ _ _) HV6.out HG6.out⟩,HB6,by omega⟩
          · have hd1N:decide ((1:Int) < (N:Int))=false:=decide_eq_false (by omega)
            have hnm:=Lx.nameD_one ws (by have:=HWN.out;omega)
            rw [hnm,if_pos (show (⟨#[]⟩:ByteArray).toList.isEmpty=true by rw [ByteArray.toList_eq];rfl)] at hcon
            rw [hcon] at hcn
            have HCN:=mkA hcn
            clear hcn hcon hnm hbw
            obtain ⟨ps,hps,hown,hof⟩:=HC.out
            have HPS:=mkA hps
            have HOWN:=mkA hown
            have HOF:=mkA hof
            have hcl:cl.length ≤ 100000:=by rw [HI.out.2.2];have:=Lx.condsL_len L (lines.take i);rw [List.length_take] at this;omega
            clear hps hown hof
            cases q
            all_goals
              go_wp2_with (first | (go_at_call 11;(refine (HWD.out _ HBW.out).mono ?_);rintro e w2 ⟨v2,rfl,hown2,hb2⟩;have hown2:=own_cast hown2 HWN.out;obtain ⟨A2,c2,rfl⟩:=own_slice hown2;have HO2:=mkA hown2;have HB2:=mkA hb2;have HBW2:=mkA (HBW.out.trans (hb2.mono HBW.out.size));obtain ⟨b0,b1,b2,b3⟩:=(HTA.out.below hb2 hgr) k t HT.out;have hgr2:g < w2.heap.size:=Nat.lt_of_lt_of_le hgr hb2.size;clear hown2 hb2) | (go_at_call 13;(refine (HKD.out _ HBW2.out).mono ?_);rintro e w3 ⟨rfl,hb3⟩;have HB3:=mkA hb3;have hsz3:=hb3.size;have HG3:=mkA (grown_below (grown_below (World.grownBy.refl wr none) HB2.out) hb3);clear hb3) | (at_builtin;(obtain ⟨fv,hfv⟩:∃ fv,Value.func (.func 90) #[] #[.pointer (some ⟨w3.heap.size + 1,0,none⟩),.pointer (some ⟨w3.heap.size,0,none⟩)]=fv:=⟨_,rfl⟩);(obtain ⟨WW,hWW⟩:∃ WW,(((w3.alloc (.cells #[.string K] 9)).alloc (.cells #[.string ⟨#[]⟩] 9)).alloc (.cells #[fv,.slice none 0 0] 102))=WW:=⟨_,rfl⟩);have hgW:=grown_trans HG3.out (ga3 w3 (.cells #[.string K] 9) (.cells #[.string ⟨#[]⟩] 9) (.cells #[fv,.slice none 0 0] 102));have hfu:=dfn_fun w3 K ⟨#[]⟩ [] (.cells #[fv,.slice none 0 0] 102);rw [hfv] at hfu ⊢;rw [hWW] at hgW hfu ⊢;have HFU:=mkA hfu;have HOWW:=mkA (own_kept_no HOWN.out hgW);have HOFW:=mkA (HOF.out.kept hgW (fun k cs t e=>by cases e));have HBWW:=mkA (HW2.out.grown hgW hsz (fun k hk=>by cases hk));have hszW:w.heap.size + 1 ≤ WW.heap.size:=Nat.le_trans hsz hgW.size;have HWS:Aside0 (WW.heap.size=w3.heap.size + 1 + 1 + 1):=⟨(by rw [← hWW];simp)⟩;have HFV:=mkA hfv;clear hgW hfu hWW hfv;refine print_append_cells (w0:=(w.alloc (.cells #[.slice (some ⟨lg,lo,none⟩) (m + 1) LC,.int .i64 br,.int .i64 par,.int .i64 bch] 41))) (W:=WW) (w.heap.size + 1) rfl (.tmp 111) (.tmp 113) 98 102 (.agg #[.nilFunc,.slice none 0 0]) 2 32 rfl Tryz.underlying98 info102 rfl (by decide) (by decide) u5 cl.length (cnCells ps) [fv,.slice none 0 0] (by rfl) (by simp [Act.eval,HWS.out]) rfl (by rw [← HFV.out];simp [Value.oneCell']) HOWW.out HBWW.out hszW (by omega) ?_;intro v6 w6 hv6 hb6 hg6 hat6;have HV6:=mkA hv6;have HB6:=mkA hb6;have HG6:=mkA hg6;have hsz6:=hg6.size;clear hv6 hb6 hg6 hat6))
              go_roundg (m - (i + 1))
              case measure=>have:=HI.out;omega
              case rel=>exact ⟨i + 1,cl ++ [.dfn ⟨#[]⟩ K []],by go_num,⟨by omega,rfl,by rw [HCN.out];rfl⟩,⟨cns_add HPS.out HOWW.out HOFW.out HFU.out (own_nil _ _ _ _) HV6.out HG6.out⟩,HB6,by omega⟩
      · obtain ⟨w0,r,p,hws2,hp,hpk⟩:=hwx hE
        have hu0:ws[0]? = some w0:=by rw [hws2];rfl
        have HU:=mkA hu0
        have hcon2:Lx.condOf t=some (.expr (t.t.extract (1 + p + K.size) t.t.size) (Lx.namesW r)):=by
          rw [hcon,hE,if_pos rfl,hws2]
          show some (Lx.Cn.expr (t.t.extract (1 + w0.a.toNat + K.size) t.t.size) (Lx.namesW r))=_
          rw [hp,Int.toNat_natCast]
        rw [hcon2] at hcn
        obtain ⟨R,hR⟩:∃ R,r.length=R:=⟨_,rfl⟩
        have hNR:N=R + 1:=by rw [← HWN.out,hws2,List.length_cons,hR]
        subst hNR
        have HWS2:=mkA hws2
        have HR:=mkA hR
        have hpk2:p + K.size < 30000:=by omega
        have s1:IntKind.i64.wrap (1 + (p:Int))=1 + (p:Int):=IntWalk.i64_in _ (by omega)
        obtain ⟨q,hq⟩:∃ q,1 + p + K.size=q:=⟨_,rfl⟩
        obtain ⟨ks,hks⟩:∃ ks,K.size=ks:=⟨_,rfl⟩
        have s2:IntKind.i64.wrap (1 + (p:Int) + (ks:Int))=(q:Int):=by rw [show 1 + (p:Int) + (ks:Int)=(q:Int) by omega];exact IntWalk.i64_in _ (by omega)
        have hqs:q ≤ t.t.size:=by omega
        have hq0:(0:Int) ≤ (q:Int):=Int.natCast_nonneg _
        rw [hq] at hcn
        have HQ:=mkA hq
        have hp0:(0:Int) ≤ (p:Int):=Int.natCast_nonneg _
        obtain ⟨qe,hqe⟩:∃ qe,(K.toList == [105,102])=qe:=⟨_,rfl⟩
        have hqe2:(K.toList == [101,108,105,102]) = !qe:=by
          unfold Lx.isExpr at hE
          rw [hqe] at hE
          cases qe
          · rw [Bool.false_or] at hE;exact hE
          · rw [beq_iff_eq.mp hqe];rfl
        have HP:=mkA hp
        have HCN:=mkA hcn
        clear hE hwx hws2 hu0 hcon hcon2 hcn hR hbw hp hq
        obtain ⟨ps,hps,hown,hof⟩:=HC.out
        have HPS:=mkA hps
        have HOWN:=mkA hown
        have HOF:=mkA hof
        have hcl:cl.length ≤ 100000:=by rw [HI.out.2.2];have:=Lx.condsL_len L (lines.take i);rw [List.length_take] at this;omega
        clear hps hown hof
        obtain ⟨rest,hrest⟩:∃ rest,t.t.extract q t.t.size=rest:=⟨_,rfl⟩
        have hrs:rest.size ≤ 20000:=by rw [← hrest,ByteArray.size_extract];omega
        rw [hrest] at HCN
        cases qe
        · go_wp2_with (first | (go_at_call 11;(refine (HWD.out _ HBW.out).mono ?_);rintro e w2 ⟨v2,rfl,hown2,hb2⟩;have hown2:=own_cast hown2 HWN.out;(obtain ⟨g2,cp2,rfl,hcp2,hg2b,hg2l,o0,o1,o2,o3⟩:=own_at hown2 HWN.out HU.out);have HO2:=mkA hown2;have HB2:=mkA hb2;have HBW2:=mkA (HBW.out.trans (hb2.mono HBW.out.size));obtain ⟨b0,b1,b2,b3⟩:=(HTA.out.below hb2 hgr) k t HT.out;have hgr2:g < w2.heap.size:=Nat.lt_of_lt_of_le hgr hb2.size;simp only [Nat.one_mul,Nat.zero_mul,Nat.zero_add] at o0 o1 o2 o3;clear hown2 hb2) | (go_at_call 13;(refine (HKD.out _ HBW2.out).mono ?_);rintro e w3 ⟨rfl,hb3⟩;have c0:=(hb3.cell hg2l).trans o0;have c1:=(hb3.cell hg2l).trans o1;have c2:=(hb3.cell hg2l).trans o2;have c3:=(hb3.cell hg2l).trans o3;have hg3l:g2 < w3.heap.size:=Nat.lt_of_lt_of_le hg2l hb3.size;have t2:=(hb3.cell hgr2).trans b2;have hgr3:g < w3.heap.size:=Nat.lt_of_lt_of_le hgr2 hb3.size;(try rw [HP.out] at c3);have HB3:=mkA hb3;have hsz3:=hb3.size;have HG3:=mkA (grown_below (grown_below (World.grownBy.refl wr none) HB2.out) hb3);clear hb3 o0 o1 o2 o3) )
          go_region
          go_wp2_with fail
          · obtain ⟨fv,hfv⟩:∃ fv,Value.func (.func 88) #[] #[.pointer (some ⟨w3.heap.size + 1,0,none⟩)]=fv:=⟨_,rfl⟩
            rw [hfv]
            obtain ⟨W5,hW5⟩:∃ W5,(((w3.alloc (.cells #[.string K] 9)).alloc (.cells #[.string rest] 9)).alloc (.cells #[fv,.slice none 0 0] 102)).drew=W5:=⟨_,rfl⟩
            have hg35:w3.grownBy W5 none:=by rw [← hW5];exact grown_drew (ga3 w3 _ _ _)
            have hk5:W5.heap[w3.heap.size + 1 + 1]? = some (.cells #[fv,.slice none 0 0] 102 (0,0)):=by rw [← hW5];exact blk_new_at ((w3.alloc (.cells #[.string K] 9)).alloc (.cells #[.string rest] 9)) (.cells #[fv,.slice none 0 0] 102) _ (by simp)
            have hr5:W5.heap[w3.heap.size + 1]? = some (.cells #[.string rest] 9 (0,0)):=by
              rw [← hW5]
              exact ((World.grownBy_alloc _ (.cells #[fv,.slice none 0 0] 102) none).block _ (by simp) (by simp)).trans (blk_new_at (w3.alloc (.cells #[.string K] 9)) (.cells #[.string rest] 9) _ (by simp))
            have hs5:w3.heap.size + 1 + 1 < W5.heap.size:=blk_lt hk5
            have HG5:=mkA (grown_trans HG3.out hg35)
            have HG25:=mkA (grown_trans (grown_below (World.grownBy.refl w2 none) HB3.out) hg35)
            have HFV:=mkA hfv
            have HR5:=mkA hr5
            have HK5:=mkA hk5
            have hwr3:wr.heap.size ≤ w3.heap.size:=HG3.out.size
            obtain ⟨wo,rfl⟩:∃ wo:World,wo=wr:=⟨_,rfl⟩
            rw [hW5]
            clear hg35 hk5 hr5 hW5 hfv c0 c1 c2 c3 b0 b1 b2 b3 t2 a0 a1 a2 a3 l0
            go_loopg [65] R (fun kq v65 W => ∃ (j:Nat) (nms:List ByteArray) (nv:Value),v65=.int .i64 j∧Aside0 (j ≤ R∧kq=R - j∧nms=Lx.namesW (r.take j))∧Aside0 (W.heap[w3.heap.size + 1 + 1]? = some (.cells #[fv,nv] 102 (0,0)))∧Aside0 (W.ownsRow (w3.heap.size + 1 + 1 + 1) 9 1 nv nms.length (nms.map Value.string))∧Aside0 (Below (w3.heap.size + 1 + 1) W5 W))
            case atStart=>exact ⟨0,[],.slice none 0 0,rfl,⟨by omega,rfl,rfl⟩,HK5,⟨own_nil _ _ _ _⟩,⟨Below.refl _ _⟩⟩
            case round =>
              obtain ⟨j,nms,nv,rfl,HJ,HK2,HNV,HBK⟩:=hrel
              have hj:=HJ.out.1
              have hj0:(0:Int) ≤ (j:Int):=Int.natCast_nonneg _
              have hkl:=blk_lt HK2.out
              have hnl:nms.length ≤ 30000:=by rw [HJ.out.2.2];have:=namesW_len (r.take j);rw [List.length_take] at this;omega
              obtain ⟨nl,hnle⟩:∃ nl,nms.length=nl:=⟨_,rfl⟩
              have HNW:=mkA (own_cast HNV.out hnle)
              have HNL:=mkA hnle
              rw [hnle] at hnl
              clear hnle
              have y1:wr.cell? ⟨w3.heap.size + 1 + 1,1,none⟩=some nv:=by rw [blk_cell HK2.out];rfl
              have y0:wr.cell? ⟨w3.heap.size + 1 + 1,0,none⟩=some fv:=by rw [blk_cell HK2.out];rfl
              by_cases hjr:j < R
              · exfalso;omega
              · obtain rfl:j=R:=by omega
                have hgw:=grown_via HG5.out HBK.out (by omega)
                have HOWW:=mkA (own_kept_no HOWN.out hgw)
                have HOFW:=mkA (HOF.out.kept hgw (fun k cs t e=>by cases e))
                have HBWW:=mkA (HW2.out.grown hgw hsz (fun k hk=>by cases hk))
                have hszW:w.heap.size + 1 ≤ wr.heap.size:=Nat.le_trans hsz hgw.size
                have HFU:Aside0 (FunAt wr fv (.expr rest nms)):=⟨by rw [← HFV.out];exact ⟨_,rfl,(HBK.out.block _ (by omega)).trans HR5.out,hrs⟩⟩
                have HNM:Aside0 (nms=Lx.namesW r):=⟨by rw [HJ.out.2.2,List.take_of_length_le (by have:=HR.out;omega)]⟩
                clear hgw
                go_wp2_with (first | (at_builtin;refine print_append_cells (w0:=(w.alloc (.cells #[.slice (some ⟨lg,lo,none⟩) (m + 1) LC,.int .i64 br,.int .i64 par,.int .i64 bch] 41))) (W:=wr) (w.heap.size + 1) rfl (.tmp 84) (.tmp 86) 98 102 (.agg #[.nilFunc,.slice none 0 0]) 2 32 rfl Tryz.underlying98 info102 rfl (by decide) (by decide) u5 cl.length (cnCells ps) [fv,nv] (by rfl) (by simp [Act.eval]) rfl (fun x hx=>by rcases List.mem_cons.1 hx with rfl | hx;exact (by rw [← HFV.out];rfl);rw [List.mem_singleton.1 hx];exact own_oneCell HNV.out) HOWW.out HBWW.out hszW (by omega) ?_;intro v6 w6 hv6 hb6 hg6 hat6;have HV6:=mkA hv6;have HB6:=mkA hb6;have HG6:=mkA hg6;have hsz6:=hg6.size;clear hv6 hb6 hg6 hat6))
                go_roundg (m - (i + 1))
                case measure=>have:=HI.out;omega
                case rel=>exact ⟨i + 1,cl ++ [.expr rest nms],by go_num,⟨by omega,rfl,by rw [HCN.out,HNM.out];rfl⟩,⟨cns_add HPS.out HOWW.out HOFW.out HFU.out (own_lower HNV.out (by omega)) HV6.out HG6.out⟩,HB6,by omega⟩
          · obtain ⟨fv,hfv⟩:∃ fv,Value.func (.func 88) #[] #[.pointer (some ⟨w3.heap.size + 1,0,none⟩)]=fv:=⟨_,rfl⟩
            rw [hfv]
            obtain ⟨W5,hW5⟩:∃ W5,(((w3.alloc (.cells #[.string K] 9)).alloc (.cells #[.string rest] 9)).alloc (.cells #[fv,.slice none 0 0] 102)).drew=W5:=⟨_,rfl⟩
            have hg35:w3.grownBy W5 none:=by rw [← hW5];exact grown_drew (ga3 w3 _ _ _)
            have hk5:W5.heap[w3.heap.size + 1 + 1]? = some (.cells #[fv,.slice none 0 0] 102 (0,0)):=by rw [← hW5];exact blk_new_at ((w3.alloc (.cells #[.string K] 9)).alloc (.cells #[.string rest] 9)) (.cells #[fv,.slice none 0 0] 102) _ (by simp)
            have hr5:W5.heap[w3.heap.size + 1]? = some (.cells #[.string rest] 9 (0,0)):=by
              rw [← hW5]
              exact ((World.grownBy_alloc _ (.cells #[fv,.slice none 0 0] 102) none).block _ (by simp) (by simp)).trans (blk_new_at (w3.alloc (.cells #[.string K] 9)) (.cells #[.string rest] 9) _ (by simp))
            have hs5:w3.heap.size + 1 + 1 < W5.heap.size:=blk_lt hk5
            have HG5:=mkA (grown_trans HG3.out hg35)
            have HG25:=mkA (grown_trans (grown_below (World.grownBy.refl w2 none) HB3.out) hg35)
            have HFV:=mkA hfv
            have HR5:=mkA hr5
            have HK5:=mkA hk5
            have hwr3:wr.heap.size ≤ w3.heap.size:=HG3.out.size
            obtain ⟨wo,rfl⟩:∃ wo:World,wo=wr:=⟨_,rfl⟩
            rw [hW5]
            clear hg35 hk5 hr5 hW5 hfv c0 c1 c2 c3 b0 b1 b2 b3 t2 a0 a1 a2 a3 l0
            go_loopg [65] R (fun kq v65 W => ∃ (j:Nat) (nms:List ByteArray) (nv:Value),v65=.int .i64 j∧Aside0 (j ≤ R∧kq=R - j∧nms=Lx.namesW (r.take j))∧Aside0 (W.heap[w3.heap.size + 1 + 1]? = some (.cells #[fv,nv] 102 (0,0)))∧Aside0 (W.ownsRow (w3.heap.size + 1 + 1 + 1) 9 1 nv nms.length (nms.map Value.string))∧Aside0 (Below (w3.heap.size + 1 + 1) W5 W))
            case atStart=>exact ⟨0,[],.slice none 0 0,rfl,⟨by omega,rfl,rfl⟩,HK5,⟨own_nil _ _ _ _⟩,⟨Below.refl _ _⟩⟩
            case round =>
              obtain ⟨j,nms,nv,rfl,HJ,HK2,HNV,HBK⟩:=hrel
              have hj:=HJ.out.1
              have hj0:(0:Int) ≤ (j:Int):=Int.natCast_nonneg _
              have hkl:=blk_lt HK2.out
              have hnl:nms.length ≤ 30000:=by rw [HJ.out.2.2];have:=namesW_len (r.take j);rw [List.length_take] at this;omega
              obtain ⟨nl,hnle⟩:∃ nl,nms.length=nl:=⟨_,rfl⟩
              have HNW:=mkA (own_cast HNV.out hnle)
              have HNL:=mkA hnle
              rw [hnle] at hnl
              clear hnle
              have y1:wr.cell? ⟨w3.heap.size + 1 + 1,1,none⟩=some nv:=by rw [blk_cell HK2.out];rfl
              have y0:wr.cell? ⟨w3.heap.size + 1 + 1,0,none⟩=some fv:=by rw [blk_cell HK2.out];rfl
              by_cases hjr:j < R
              · obtain ⟨u,hu⟩:∃ u,r[j]? = some u:=⟨_,List.getElem?_eq_getElem (by have:=HR.out;omega)⟩
                have hne1:¬ cp2=1:=by omega
                have hwu:ws[j + 1]? = some u:=by rw [HWS2.out];simpa using hu
                obtain ⟨g2',cp2',e',-,-,-,o0,o1,o2,o3⟩:=own_at HO2.out HWN.out hwu
                simp only [Value.slice.injEq,Option.some.injEq,Addr.mk.injEq,and_true,true_and] at e'
                obtain ⟨rfl,rfl⟩:=e'
                rw [show (j + 1) * 4=4 + j * 4 by omega] at o0 o1 o2 o3
                have o0:=(HBK.out.cell (p:=⟨g2,_,none⟩) (show g2 < _ by omega)).trans (HG25.out.cell o0 (by simp))
                have o1:=(HBK.out.cell (p:=⟨g2,_,none⟩) (show g2 < _ by omega)).trans (HG25.out.cell o1 (by simp))
                have o2:=(HBK.out.cell (p:=⟨g2,_,none⟩) (show g2 < _ by omega)).trans (HG25.out.cell o2 (by simp))
                have o3:=(HBK.out.cell (p:=⟨g2,_,none⟩) (show g2 < _ by omega)).trans (HG25.out.cell o3 (by simp))
                have hg2r:g2 < wr.heap.size:=by omega
                have HIX:=mkA (isName_calls u)
                unfold tokV at HIX
                have hnx:=namesW_snoc (r.take j) u
                rw [← take_snoc r j u hu,← HJ.out.2.2] at hnx
                have HNX:=mkA hnx
                have hask:Lx.askW u=((u.k == 1) && !(u.t.toList == [100,101,102,105,110,101,100])):=rfl
                obtain ⟨uk,huk⟩:∃ uk,(u.k == 1)=uk:=⟨_,rfl⟩
                rw [huk] at hask HIX
                clear hu hwu hnx huk
                cases uk
                · have HASK:=mkA (show Lx.askW u=false by rw [hask];rfl)
                  clear hask
                  go_wp2_with (first | (go_at_call 89;(refine (HIX.out _).mono ?_);rintro e w7 ⟨rfl,hg⟩;have hg7:=grown_trans (World.grownBy_alloc wr (.cells #[.int .i64 u.k,.string u.b,.string u.t,.int .i64 u.a] 29) none) hg;have n2:w7.cell? ⟨wr.heap.size,2,none⟩=some (.string u.t):=hg.cell (show (wr.alloc (.cells #[.int .i64 u.k,.string u.b,.string u.t,.int .i64 u.a] 29)).cell? ⟨wr.heap.size,2,none⟩=_ by rw [blk_cell (blk_new wr _)];rfl) (by simp);have hs7:wr.heap.size < w7.heap.size:=(by have:=hg.size;simp at this;omega);have k7:=(hg7.block _ (blk_lt HK2.out) (by simp)).trans HK2.out;have K7:=mkA k7;have y7:w7.cell? ⟨w3.heap.size + 1 + 1,1,none⟩=some nv:=(by rw [blk_cell k7];rfl);have hk7:=blk_lt k7;have HNV7:=mkA (own_kept_no HNW.out hg7);have HG7:=mkA hg7;have HBK7:=mkA (HBK.out.grown hg7 (by omega) (fun k hk=>by cases hk));clear hg hg7 k7))
                  go_roundg (R - (j + 1))
                  case measure=>have:=HJ.out;omega
                  case rel=>exact ⟨j + 1,nms,nv,by go_num,⟨by omega,rfl,by rw [HNX.out,if_neg (by rw [HASK.out];exact Bool.false_ne_true),List.append_nil]⟩,⟨K7.out⟩,⟨by rw [HNL.out];exact HNV7.out⟩,⟨HBK7.out⟩⟩
                · cases hud:(u.t.toList == [100,101,102,105,110,101,100])
                  · have HASK:=mkA (show Lx.askW u=true by rw [hask,hud];rfl)
                    clear hask
                    go_wp2_with (first | (go_at_call 89;(refine (HIX.out _).mono ?_);rintro e w7 ⟨rfl,hg⟩;have hg7:=grown_trans (World.grownBy_alloc wr (.cells #[.int .i64 u.k,.string u.b,.string u.t,.int .i64 u.a] 29) none) hg;have n2:w7.cell? ⟨wr.heap.size,2,none⟩=some (.string u.t):=hg.cell (show (wr.alloc (.cells #[.int .i64 u.k,.string u.b,.string u.t,.int .i64 u.a] 29)).cell? ⟨wr.heap.size,2,none⟩=_ by rw [blk_cell (blk_new wr _)];rfl) (by simp);have hs7:wr.heap.size < w7.heap.size:=(by have:=hg.size;simp at this;omega);have k7:=(hg7.block _ (blk_lt HK2.out) (by simp)).trans HK2.out;have K7:=mkA k7;have y7:w7.cell? ⟨w3.heap.size + 1 + 1,1,none⟩=some nv:=(by rw [blk_cell k7];rfl);have hk7:=blk_lt k7;have HNV7:=mkA (own_kept_no HNW.out hg7);have HG7:=mkA hg7;have HBK7:=mkA (HBK.out.grown hg7 (by omega) (fun k hk=>by cases hk));clear hg hg7 k7) | (at_builtin;refine print_append_cells (w0:=w7) (W:=w7) (w3.heap.size + 1 + 1 + 1) rfl (.tmp 77) (.tmp 80) 62 9 (.string ⟨#[]⟩) 1 16 rfl Tryz.underlying62 info9 rfl (by decide) (by decide) nv nl (nms.map Value.string) [.string u.t] (by rfl) (by simp [Act.eval]) rfl (by simp [Value.oneCell']) HNV7.out (Below.refl _ _) (by omega) (by omega) ?_;intro v8 w8 hv8 hb8 hg8 hat8;(obtain ⟨g8,cp8,hv8e,-,-⟩:=hv8.form (by omega));subst hv8e;have k8:=(hb8.block _ (Nat.lt_succ_self _)).trans K7.out;have y8:w8.cell? ⟨w3.heap.size + 1 + 1,1,none⟩=some nv:=(by rw [blk_cell k8];rfl);have z8:=blk_frozen k8 1;have hk8:=blk_lt k8;have HV8:=mkA hv8;have HB8:=mkA hb8;have K8:=mkA k8;clear hv8 hb8 hg8 hat8 k8))
                    go_roundg (R - (j + 1))
                    case measure=>have:=HJ.out;omega
                    case rel =>
                      refine ⟨j + 1,nms ++ [u.t],.slice (some ⟨g8,0,none⟩) (nl + 1) cp8,by go_num,⟨by omega,rfl,by rw [HNX.out,if_pos HASK.out]⟩,⟨blk_put K8.out 1 _ rfl⟩,⟨?_⟩,⟨?_⟩⟩
                      · have h9:=own_kept_ty HV8.out (grown_set (World.grownBy.refl w8 (some (w3.heap.size + 1 + 1))) 1 (.slice (some ⟨g8,0,none⟩) (nl + 1) cp8)) K8.out (by decide)
                        rw [List.length_append,List.length_singleton,HNL.out,List.map_append]
                        exact h9
                      · exact Below.setCell (p:=⟨w3.heap.size + 1 + 1,1,none⟩) (HBK7.out.trans (HB8.out.mono (Nat.le_succ _))) (Nat.le_refl _) _
                  · have HASK:=mkA (show Lx.askW u=false by rw [hask,hud];rfl)
                    clear hask
                    go_wp2_with (first | (go_at_call 89;(refine (HIX.out _).mono ?_);rintro e w7 ⟨rfl,hg⟩;have hg7:=grown_trans (World.grownBy_alloc wr (.cells #[.int .i64 u.k,.string u.b,.string u.t,.int .i64 u.a] 29) none) hg;have n2:w7.cell? ⟨wr.heap.size,2,none⟩=some (.string u.t):=hg.cell (show (wr.alloc (.cells #[.int .i64 u.k,.string u.b,.string u.t,.int .i64 u.a] 29)).cell? ⟨wr.heap.size,2,none⟩=_ by rw [blk_cell (blk_new wr _)];rfl) (by simp);have hs7:wr.heap.size < w7.heap.size:=(by have:=hg.size;simp at this;omega);have k7:=(hg7.block _ (blk_lt HK2.out) (by simp)).trans HK2.out;have K7:=mkA k7;have y7:w7.cell? ⟨w3.heap.size + 1 + 1,1,none⟩=some nv:=(by rw [blk_cell k7];rfl);have hk7:=blk_lt k7;have HNV7:=mkA (own_kept_no HNW.out hg7);have HG7:=mkA hg7;have HBK7:=mkA (HBK.out.grown hg7 (by omega) (fun k hk=>by cases hk));clear hg hg7 k7))
                    go_roundg (R - (j + 1))
                    case measure=>have:=HJ.out;omega
                    case rel=>exact ⟨j + 1,nms,nv,by go_num,⟨by omega,rfl,by rw [HNX.out,if_neg (by rw [HASK.out];exact Bool.false_ne_true),List.append_nil]⟩,⟨K7.out⟩,⟨by rw [HNL.out];exact HNV7.out⟩,⟨HBK7.out⟩⟩
              · obtain rfl:j=R:=by omega
                have hgw:=grown_via HG5.out HBK.out (by omega)
                have HOWW:=mkA (own_kept_no HOWN.out hgw)
                have HOFW:=mkA (HOF.out.kept hgw (fun k cs t e=>by cases e))
                have HBWW:=mkA (HW2.out.grown hgw hsz (fun k hk=>by cases hk))
                have hszW:w.heap.size + 1 ≤ wr.heap.size:=Nat.le_trans hsz hgw.size
                have HFU:Aside0 (FunAt wr fv (.expr rest nms)):=⟨by rw [← HFV.out];exact ⟨_,rfl,(HBK.out.block _ (by omega)).trans HR5.out,hrs⟩⟩
                have HNM:Aside0 (nms=Lx.namesW r):=⟨by rw [HJ.out.2.2,List.take_of_length_le (by have:=HR.out;omega)]⟩
                clear hgw
                go_wp2_with (first | (at_builtin;refine print_append_cells (w0:=(w.alloc (.cells #[.slice (some ⟨lg,lo,none⟩) (m + 1) LC,.int .i64 br,.int .i64 par,.int .i64 bch] 41))) (W:=wr) (w.heap.size + 1) rfl (.tmp 84) (.tmp 86) 98 102 (.agg #[.nilFunc,.slice none 0 0]) 2 32 rfl Tryz.underlying98 info102 rfl (by decide) (by decide) u5 cl.length (cnCells ps) [fv,nv] (by rfl) (by simp [Act.eval]) rfl (fun x hx=>by rcases List.mem_cons.1 hx with rfl | hx;exact (by rw [← HFV.out];rfl);rw [List.mem_singleton.1 hx];exact own_oneCell HNV.out) HOWW.out HBWW.out hszW (by omega) ?_;intro v6 w6 hv6 hb6 hg6 hat6;have HV6:=mkA hv6;have HB6:=mkA hb6;have HG6:=mkA hg6;have hsz6:=hg6.size;clear hv6 hb6 hg6 hat6))
                go_roundg (m - (i + 1))
                case measure=>have:=HI.out;omega
                case rel=>exact ⟨i + 1,cl ++ [.expr rest nms],by go_num,⟨by omega,rfl,by rw [HCN.out,HNM.out];rfl⟩,⟨cns_add HPS.out HOWW.out HOFW.out HFU.out (own_lower HNV.out (by omega)) HV6.out HG6.out⟩,HB6,by omega⟩
        · go_wp2_with (first | (go_at_call 11;(refine (HWD.out _ HBW.out).mono ?_);rintro e w2 ⟨v2,rfl,hown2,hb2⟩;have hown2:=own_cast hown2 HWN.out;(obtain ⟨g2,cp2,rfl,hcp2,hg2b,hg2l,o0,o1,o2,o3⟩:=own_at hown2 HWN.out HU.out);have HO2:=mkA hown2;have HB2:=mkA hb2;have HBW2:=mkA (HBW.out.trans (hb2.mono HBW.out.size));obtain ⟨b0,b1,b2,b3⟩:=(HTA.out.below hb2 hgr) k t HT.out;have hgr2:g < w2.heap.size:=Nat.lt_of_lt_of_le hgr hb2.size;simp only [Nat.one_mul,Nat.zero_mul,Nat.zero_add] at o0 o1 o2 o3;clear hown2 hb2) | (go_at_call 13;(refine (HKD.out _ HBW2.out).mono ?_);rintro e w3 ⟨rfl,hb3⟩;have c0:=(hb3.cell hg2l).trans o0;have c1:=(hb3.cell hg2l).trans o1;have c2:=(hb3.cell hg2l).trans o2;have c3:=(hb3.cell hg2l).trans o3;have hg3l:g2 < w3.heap.size:=Nat.lt_of_lt_of_le hg2l hb3.size;have t2:=(hb3.cell hgr2).trans b2;have hgr3:g < w3.heap.size:=Nat.lt_of_lt_of_le hgr2 hb3.size;(try rw [HP.out] at c3);have HB3:=mkA hb3;have hsz3:=hb3.size;have HG3:=mkA (grown_below (grown_below (World.grownBy.refl wr none) HB2.out) hb3);clear hb3 o0 o1 o2 o3) )
          go_region
          go_wp2_with fail
          · obtain ⟨fv,hfv⟩:∃ fv,Value.func (.func 88) #[] #[.pointer (some ⟨w3.heap.size + 1,0,none⟩)]=fv:=⟨_,rfl⟩
            rw [hfv]
            obtain ⟨W5,hW5⟩:∃ W5,(((w3.alloc (.cells #[.string K] 9)).alloc (.cells #[.string rest] 9)).alloc (.cells #[fv,.slice none 0 0] 102)).drew=W5:=⟨_,rfl⟩
            have hg35:w3.grownBy W5 none:=by rw [← hW5];exact grown_drew (ga3 w3 _ _ _)
            have hk5:W5.heap[w3.heap.size + 1 + 1]? = some (.cells #[fv,.slice none 0 0] 102 (0,0)):=by rw [← hW5];exact blk_new_at ((w3.alloc (.cells #[.string K] 9)).alloc (.cells #[.string rest] 9)) (.cells #[fv,.slice none 0 0] 102) _ (by simp)
            have hr5:W5.heap[w3.heap.size + 1]? = some (.cells #[.string rest] 9 (0,0)):=by
              rw [← hW5]
              exact ((World.grownBy_alloc _ (.cells #[fv,.slice none 0 0] 102) none).block _ (by simp) (by simp)).trans (blk_new_at (w3.alloc (.cells #[.string K] 9)) (.cells #[.string rest] 9) _ (by simp))
            have hs5:w3.heap.size + 1 + 1 < W5.heap.size:=blk_lt hk5
            have HG5:=mkA (grown_trans HG3.out hg35)
            have HG25:=mkA (grown_trans (grown_below (World.grownBy.refl w2 none) HB3.out) hg35)
            have HFV:=mkA hfv
            have HR5:=mkA hr5
            have HK5:=mkA hk5
            have hwr3:wr.heap.size ≤ w3.heap.size:=HG3.out.size
            obtain ⟨wo,rfl⟩:∃ wo:World,wo=wr:=⟨_,rfl⟩
            rw [hW5]
            clear hg35 hk5 hr5 hW5 hfv c0 c1 c2 c3 b0 b1 b2 b3 t2 a0 a1 a2 a3 l0
            go_loopg [65] R (fun kq v65 W => ∃ (j:Nat) (nms:List ByteArray) (nv:Value),v65=.int .i64 j∧Aside0 (j ≤ R∧kq=R - j∧nms=Lx.namesW (r.take j))∧Aside0 (W.heap[w3.heap.size + 1 + 1]? = some (.cells #[fv,nv] 102 (0,0)))∧Aside0 (W.ownsRow (w3.heap.size + 1 + 1 + 1) 9 1 nv nms.length (nms.map Value.string))∧Aside0 (Below (w3.heap.size + 1 + 1) W5 W))
            case atStart=>exact ⟨0,[],.slice none 0 0,rfl,⟨by omega,rfl,rfl⟩,HK5,⟨own_nil _ _ _ _⟩,⟨Below.refl _ _⟩⟩
            case round =>
              obtain ⟨j,nms,nv,rfl,HJ,HK2,HNV,HBK⟩:=hrel
              have hj:=HJ.out.1
              have hj0:(0:Int) ≤ (j:Int):=Int.natCast_nonneg _
              have hkl:=blk_lt HK2.out
              have hnl:nms.length ≤ 30000:=by rw [HJ.out.2.2];have:=namesW_len (r.take j);rw [List.length_take] at this;omega
              obtain ⟨nl,hnle⟩:∃ nl,nms.length=nl:=⟨_,rfl⟩
              have HNW:=mkA (own_cast HNV.out hnle)
              have HNL:=mkA hnle
              rw [hnle] at hnl
              clear hnle
              have y1:wr.cell? ⟨w3.heap.size + 1 + 1,1,none⟩=some nv:=by rw [blk_cell HK2.out];rfl
              have y0:wr.cell? ⟨w3.heap.size + 1 + 1,0,none⟩=some fv:=by rw [blk_cell HK2.out];rfl
              by_cases hjr:j < R
              · exfalso;omega
              · obtain rfl:j=R:=by omega
                have hgw:=grown_via HG5.out HBK.out (by omega)
                have HOWW:=mkA (own_kept_no HOWN.out hgw)
                have HOFW:=mkA (HOF.out.kept hgw (fun k cs t e=>by cases e))
                have HBWW:=mkA (HW2.out.grown hgw hsz (fun k hk=>by cases hk))
                have hszW:w.heap.size + 1 ≤ wr.heap.size:=Nat.le_trans hsz hgw.size
                have HFU:Aside0 (FunAt wr fv (.expr rest nms)):=⟨by rw [← HFV.out];exact ⟨_,rfl,(HBK.out.block _ (by omega)).trans HR5.out,hrs⟩⟩
                have HNM:Aside0 (nms=Lx.namesW r):=⟨by rw [HJ.out.2.2,List.take_of_length_le (by have:=HR.out;omega)]⟩
                clear hgw
                go_wp2_with (first | (at_builtin;refine print_append_cells (w0:=(w.alloc (.cells #[.slice (some ⟨lg,lo,none⟩) (m + 1) LC,.int .i64 br,.int .i64 par,.int .i64 bch] 41))) (W:=wr) (w.heap.size + 1) rfl (.tmp 84) (.tmp 86) 98 102 (.agg #[.nilFunc,.slice none 0 0]) 2 32 rfl Tryz.underlying98 info102 rfl (by decide) (by decide) u5 cl.length (cnCells ps) [fv,nv] (by rfl) (by simp [Act.eval]) rfl (fun x hx=>by rcases List.mem_cons.1 hx with rfl | hx;exact (by rw [← HFV.out];rfl);rw [List.mem_singleton.1 hx];exact own_oneCell HNV.out) HOWW.out HBWW.out hszW (by omega) ?_;intro v6 w6 hv6 hb6 hg6 hat6;have HV6:=mkA hv6;have HB6:=mkA hb6;have HG6:=mkA hg6;have hsz6:=hg6.size;clear hv6 hb6 hg6 hat6))
                go_roundg (m - (i + 1))
                case measure=>have:=HI.out;omega
                case rel=>exact ⟨i + 1,cl ++ [.expr rest nms],by go_num,⟨by omega,rfl,by rw [HCN.out,HNM.out];rfl⟩,⟨cns_add HPS.out HOWW.out HOFW.out HFU.out (own_lower HNV.out (by omega)) HV6.out HG6.out⟩,HB6,by omega⟩
          · obtain ⟨fv,hfv⟩:∃ fv,Value.func (.func 88) #[] #[.pointer (some ⟨w3.heap.size + 1,0,none⟩)]=fv:=⟨_,rfl⟩
            rw [hfv]
            obtain ⟨W5,hW5⟩:∃ W5,(((w3.alloc (.cells #[.string K] 9)).alloc (.cells #[.string rest] 9)).alloc (.cells #[fv,.slice none 0 0] 102)).drew=W5:=⟨_,rfl⟩
            have hg35:w3.grownBy W5 none:=by rw [← hW5];exact grown_drew (ga3 w3 _ _ _)
            have hk5:W5.heap[w3.heap.size + 1 + 1]? = some (.cells #[fv,.slice none 0 0] 102 (0,0)):=by rw [← hW5];exact blk_new_at ((w3.alloc (.cells #[.string K] 9)).alloc (.cells #[.string rest] 9)) (.cells #[fv,.slice none 0 0] 102) _ (by simp)
            have hr5:W5.heap[w3.heap.size + 1]? = some (.cells #[.string rest] 9 (0,0)):=by
              rw [← hW5]
              exact ((World.grownBy_alloc _ (.cells #[fv,.slice none 0 0] 102) none).block _ (by simp) (by simp)).trans (blk_new_at (w3.alloc (.cells #[.string K] 9)) (.cells #[.string rest] 9) _ (by simp))
            have hs5:w3.heap.size + 1 + 1 < W5.heap.size:=blk_lt hk5
            have HG5:=mkA (grown_trans HG3.out hg35)
            have HG25:=mkA (grown_trans (grown_below (World.grownBy.refl w2 none) HB3.out) hg35)
            have HFV:=mkA hfv
            have HR5:=mkA hr5
            have HK5:=mkA hk5
            have hwr3:wr.heap.size ≤ w3.heap.size:=HG3.out.size
            obtain ⟨wo,rfl⟩:∃ wo:World,wo=wr:=⟨_,rfl⟩
            rw [hW5]
            clear hg35 hk5 hr5 hW5 hfv c0 c1 c2 c3 b0 b1 b2 b3 t2 a0 a1 a2 a3 l0
            go_loopg [65] R (fun kq v65 W => ∃ (j:Nat) (nms:List ByteArray) (nv:Value),v65=.int .i64 j∧Aside0 (j ≤ R∧kq=R - j∧nms=Lx.namesW (r.take j))∧Aside0 (W.heap[w3.heap.size + 1 + 1]? = some (.cells #[fv,nv] 102 (0,0)))∧Aside0 (W.ownsRow (w3.heap.size + 1 + 1 + 1) 9 1 nv nms.length (nms.map Value.string))∧Aside0 (Below (w3.heap.size + 1 + 1) W5 W))
            case atStart=>exact ⟨0,[],.slice none 0 0,rfl,⟨by omega,rfl,rfl⟩,HK5,⟨own_nil _ _ _ _⟩,⟨Below.refl _ _⟩⟩
            case round =>
              obtain ⟨j,nms,nv,rfl,HJ,HK2,HNV,HBK⟩:=hrel
              have hj:=HJ.out.1
              have hj0:(0:Int) ≤ (j:Int):=Int.natCast_nonneg _
              have hkl:=blk_lt HK2.out
              have hnl:nms.length ≤ 30000:=by rw [HJ.out.2.2];have:=namesW_len (r.take j);rw [List.length_take] at this;omega
              obtain ⟨nl,hnle⟩:∃ nl,nms.length=nl:=⟨_,rfl⟩
              have HNW:=mkA (own_cast HNV.out hnle)
              have HNL:=mkA hnle
              rw [hnle] at hnl
              clear hnle
              have y1:wr.cell? ⟨w3.heap.size + 1 + 1,1,none⟩=some nv:=by rw [blk_cell HK2.out];rfl
              have y0:wr.cell? ⟨w3.heap.size + 1 + 1,0,none⟩=some fv:=by rw [blk_cell HK2.out];rfl
              by_cases hjr:j < R
              · obtain ⟨u,hu⟩:∃ u,r[j]? = some u:=⟨_,List.getElem?_eq_getElem (by have:=HR.out;omega)⟩
                have hne1:¬ cp2=1:=by omega
                have hwu:ws[j + 1]? = some u:=by rw [HWS2.out];simpa using hu
                obtain ⟨g2',cp2',e',-,-,-,o0,o1,o2,o3⟩:=own_at HO2.out HWN.out hwu
                simp only [Value.slice.injEq,Option.some.injEq,Addr.mk.injEq,and_true,true_and] at e'
                obtain ⟨rfl,rfl⟩:=e'
                rw [show (j + 1) * 4=4 + j * 4 by omega] at o0 o1 o2 o3
                have o0:=(HBK.out.cell (p:=⟨g2,_,none⟩) (show g2 < _ by omega)).trans (HG25.out.cell o0 (by simp))
                have o1:=(HBK.out.cell (p:=⟨g2,_,none⟩) (show g2 < _ by omega)).trans (HG25.out.cell o1 (by simp))
                have o2:=(HBK.out.cell (p:=⟨g2,_,none⟩) (show g2 < _ by omega)).trans (HG25.out.cell o2 (by simp))
                have o3:=(HBK.out.cell (p:=⟨g2,_,none⟩) (show g2 < _ by omega)).trans (HG25.out.cell o3 (by simp))
                have hg2r:g2 < wr.heap.size:=by omega
                have HIX:=mkA (isName_calls u)
                unfold tokV at HIX
                have hnx:=namesW_snoc (r.take j) u
                rw [← take_snoc r j u hu,← HJ.out.2.2] at hnx
                have HNX:=mkA hnx
                have hask:Lx.askW u=((u.k == 1) && !(u.t.toList == [100,101,102,105,110,101,100])):=rfl
                obtain ⟨uk,huk⟩:∃ uk,(u.k == 1)=uk:=⟨_,rfl⟩
                rw [huk] at hask HIX
                clear hu hwu hnx huk
                cases uk
                · have HASK:=mkA (show Lx.askW u=false by rw [hask];rfl)
                  clear hask
                  go_wp2_with (first | (go_at_call 89;(refine (HIX.out _).mono ?_);rintro e w7 ⟨rfl,hg⟩;have hg7:=grown_trans (World.grownBy_alloc wr (.cells #[.int .i64 u.k,.string u.b,.string u.t,.int .i64 u.a] 29) none) hg;have n2:w7.cell? ⟨wr.heap.size,2,none⟩=some (.string u.t):=hg.cell (show (wr.alloc (.cells #[.int .i64 u.k,.string u.b,.string u.t,.int .i64 u.a] 29)).cell? ⟨wr.heap.size,2,none⟩=_ by rw [blk_cell (blk_new wr _)];rfl) (by simp);have hs7:wr.heap.size < w7.heap.size:=(by have:=hg.size;simp at this;omega);have k7:=(hg7.block _ (blk_lt HK2.out) (by simp)).trans HK2.out;have K7:=mkA k7;have y7:w7.cell? ⟨w3.heap.size + 1 + 1,1,none⟩=some nv:=(by rw [blk_cell k7];rfl);have hk7:=blk_lt k7;have HNV7:=mkA (own_kept_no HNW.out hg7);have HG7:=mkA hg7;have HBK7:=mkA (HBK.out.grown hg7 (by omega) (fun k hk=>by cases hk));clear hg hg7 k7))
                  go_roundg (R - (j + 1))
                  case measure=>have:=HJ.out;omega
                  case rel=>exact ⟨j + 1,nms,nv,by go_num,⟨by omega,rfl,by rw [HNX.out,if_neg (by rw [HASK.out];exact Bool.false_ne_true),List.append_nil]⟩,⟨K7.out⟩,⟨by rw [HNL.out];exact HNV7.out⟩,⟨HBK7.out⟩⟩
                · cases hud:(u.t.toList == [100,101,102,105,110,101,100])
                  · have HASK:=mkA (show Lx.askW u=true by rw [hask,hud];rfl)
                    clear hask
                    go_wp2_with (first | (go_at_call 89;(refine (HIX.out _).mono ?_);rintro e w7 ⟨rfl,hg⟩;have hg7:=grown_trans (World.grownBy_alloc wr (.cells #[.int .i64 u.k,.string u.b,.string u.t,.int .i64 u.a] 29) none) hg;have n2:w7.cell? ⟨wr.heap.size,2,none⟩=some (.string u.t):=hg.cell (show (wr.alloc (.cells #[.int .i64 u.k,.string u.b,.string u.t,.int .i64 u.a] 29)).cell? ⟨wr.heap.size,2,none⟩=_ by rw [blk_cell (blk_new wr _)];rfl) (by simp);have hs7:wr.heap.size < w7.heap.size:=(by have:=hg.size;simp at this;omega);have k7:=(hg7.block _ (blk_lt HK2.out) (by simp)).trans HK2.out;have K7:=mkA k7;have y7:w7.cell? ⟨w3.heap.size + 1 + 1,1,none⟩=some nv:=(by rw [blk_cell k7];rfl);have hk7:=blk_lt k7;have HNV7:=mkA (own_kept_no HNW.out hg7);have HG7:=mkA hg7;have HBK7:=mkA (HBK.out.grown hg7 (by omega) (fun k hk=>by cases hk));clear hg hg7 k7) | (at_builtin;refine print_append_cells (w0:=w7) (W:=w7) (w3.heap.size + 1 + 1 + 1) rfl (.tmp 77) (.tmp 80) 62 9 (.string ⟨#[]⟩) 1 16 rfl Tryz.underlying62 info9 rfl (by decide) (by decide) nv nl (nms.map Value.string) [.string u.t] (by rfl) (by simp [Act.eval]) rfl (by simp [Value.oneCell']) HNV7.out (Below.refl _ _) (by omega) (by omega) ?_;intro v8 w8 hv8 hb8 hg8 hat8;(obtain ⟨g8,cp8,hv8e,-,-⟩:=hv8.form (by omega));subst hv8e;have k8:=(hb8.block _ (Nat.lt_succ_self _)).trans K7.out;have y8:w8.cell? ⟨w3.heap.size + 1 + 1,1,none⟩=some nv:=(by rw [blk_cell k8];rfl);have z8:=blk_frozen k8 1;have hk8:=blk_lt k8;have HV8:=mkA hv8;have HB8:=mkA hb8;have K8:=mkA k8;clear hv8 hb8 hg8 hat8 k8))
                    go_roundg (R - (j + 1))
                    case measure=>have:=HJ.out;omega
                    case rel =>
                      refine ⟨j + 1,nms ++ [u.t],.slice (some ⟨g8,0,none⟩) (nl + 1) cp8,by go_num,⟨by omega,rfl,by rw [HNX.out,if_pos HASK.out]⟩,⟨blk_put K8.out 1 _ rfl⟩,⟨?_⟩,⟨?_⟩⟩
                      · have h9:=own_kept_ty HV8.out (grown_set (World.grownBy.refl w8 (some (w3.heap.size + 1 + 1))) 1 (.slice (some ⟨g8,0,none⟩) (nl + 1) cp8)) K8.out (by decide)
                        rw [List.length_append,List.length_singleton,HNL.out,List.map_append]
                        exact h9
                      · exact Below.setCell (p:=⟨w3.heap.size + 1 + 1,1,none⟩) (HBK7.out.trans (HB8.out.mono (Nat.le_succ _))) (Nat.le_refl _) _
                  · have HASK:=mkA (show Lx.askW u=false by rw [hask,hud];rfl)
                    clear hask
                    go_wp2_with (first | (go_at_call 89;(refine (HIX.out _).mono ?_);rintro e w7 ⟨rfl,hg⟩;have hg7:=grown_trans (World.grownBy_alloc wr (.cells #[.int .i64 u.k,.string u.b,.string u.t,.int .i64 u.a] 29) none) hg;have n2:w7.cell? ⟨wr.heap.size,2,none⟩=some (.string u.t):=hg.cell (show (wr.alloc (.cells #[.int .i64 u.k,.string u.b,.string u.t,.int .i64 u.a] 29)).cell? ⟨wr.heap.size,2,none⟩=_ by rw [blk_cell (blk_new wr _)];rfl) (by simp);have hs7:wr.heap.size < w7.heap.size:=(by have:=hg.size;simp at this;omega);have k7:=(hg7.block _ (blk_lt HK2.out) (by simp)).trans HK2.out;have K7:=mkA k7;have y7:w7.cell? ⟨w3.heap.size + 1 + 1,1,none⟩=some nv:=(by rw [blk_cell k7];rfl);have hk7:=blk_lt k7;have HNV7:=mkA (own_kept_no HNW.out hg7);have HG7:=mkA hg7;have HBK7:=mkA (HBK.out.grown hg7 (by omega) (fun k hk=>by cases hk));clear hg hg7 k7))
                    go_roundg (R - (j + 1))
                    case measure=>have:=HJ.out;omega
                    case rel=>exact ⟨j + 1,nms,nv,by go_num,⟨by omega,rfl,by rw [HNX.out,if_neg (by rw [HASK.out];exact Bool.false_ne_true),List.append_nil]⟩,⟨K7.out⟩,⟨by rw [HNL.out];exact HNV7.out⟩,⟨HBK7.out⟩⟩
              · obtain rfl:j=R:=by omega
                have hgw:=grown_via HG5.out HBK.out (by omega)
                have HOWW:=mkA (own_kept_no HOWN.out hgw)
                have HOFW:=mkA (HOF.out.kept hgw (fun k cs t e=>by cases e))
                have HBWW:=mkA (HW2.out.grown hgw hsz (fun k hk=>by cases hk))
                have hszW:w.heap.size + 1 ≤ wr.heap.size:=Nat.le_trans hsz hgw.size
                have HFU:Aside0 (FunAt wr fv (.expr rest nms)):=⟨by rw [← HFV.out];exact ⟨_,rfl,(HBK.out.block _ (by omega)).trans HR5.out,hrs⟩⟩
                have HNM:Aside0 (nms=Lx.namesW r):=⟨by rw [HJ.out.2.2,List.take_of_length_le (by have:=HR.out;omega)]⟩
                clear hgw
                go_wp2_with (first | (at_builtin;refine print_append_cells (w0:=(w.alloc (.cells #[.slice (some ⟨lg,lo,none⟩) (m + 1) LC,.int .i64 br,.int .i64 par,.int .i64 bch] 41))) (W:=wr) (w.heap.size + 1) rfl (.tmp 84) (.tmp 86) 98 102 (.agg #[.nilFunc,.slice none 0 0]) 2 32 rfl Tryz.underlying98 info102 rfl (by decide) (by decide) u5 cl.length (cnCells ps) [fv,nv] (by rfl) (by simp [Act.eval]) rfl (fun x hx=>by rcases List.mem_cons.1 hx with rfl | hx;exact (by rw [← HFV.out];rfl);rw [List.mem_singleton.1 hx];exact own_oneCell HNV.out) HOWW.out HBWW.out hszW (by omega) ?_;intro v6 w6 hv6 hb6 hg6 hat6;have HV6:=mkA hv6;have HB6:=mkA hb6;have HG6:=mkA hg6;have hsz6:=hg6.size;clear hv6 hb6 hg6 hat6))
                go_roundg (m - (i + 1))
                case measure=>have:=HI.out;omega
                case rel=>exact ⟨i + 1,cl ++ [.expr rest nms],by go_num,⟨by omega,rfl,by rw [HCN.out,HNM.out];rfl⟩,⟨cns_add HPS.out HOWW.out HOFW.out HFU.out (own_lower HNV.out (by omega)) HV6.out HG6.out⟩,HB6,by omega⟩
    · obtain rfl:i=m:=by omega
      go_wp2_with fail
      go_ret
      exact ⟨_,rfl,by rw [← HI.out.2.2];exact HC.out.lower (Nat.le_succ _),HBW.out⟩
end Go.Proofs.YtjnafjgonoficaaGreatDoor
