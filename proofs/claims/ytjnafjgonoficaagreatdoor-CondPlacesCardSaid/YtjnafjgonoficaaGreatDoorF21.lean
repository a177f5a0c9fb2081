/-
  What cond.Names gathers. Conditions: the tokens lie in memory; they are short; the library's variables are as their text lays them.
  Contracts of Go's library, laid at this program by the kit's own tool. Conditions: as each theorem says.
  The sort and the compacting of a call's own names. Conditions: the row is the call's own.
  What cond.Dead comes to. Conditions: the tokens lie in memory; they are short; the library's variables are as their text lays them.
  What cond.View and cond.First come to where the groups are not as said, or the choice does not fit. Conditions: the tokens and the choice lie in memory; the tokens are short; the library's variables are as their text lays them.
-/
import Derived.Maps.AppendAt
import Derived.Shelf.Strings.Builder1
import Derived.Shelf.Strings.Builder2
import Derived.Shelf.Strings.OnBuilder
import Derived.Shelf.Small.Utf8
import Derived.Shelf.Small.Bits
import Derived.Shelf.Small.Strs
import Derived.Shelf.Strings.BuilderF
import Derived.Shelf.Strings.BuilderK
import Derived.Shelf.Strings.BuilderRune
import Derived.Shelf.Strconv.Itoa0
import Derived.Shelf.Strconv.Itoa1
import Derived.Shelf.LaysM
import Derived.Shelf.Strconv.Itoa2
import Derived.Shelf.Strconv.Itoa3
import Derived.Shelf.Strconv.ParseIntEmpty
import Derived.Shelf.Strconv.Clone
import Derived.Shelf.Strconv.SyntaxError
import Derived.Shelf.LaysC
import Derived.Shelf.Strconv.ToError
import Derived.Shelf.Strconv.Lower
import Derived.Shelf.Strconv.ParseUint10
import Derived.Shelf.Strconv.ParseUint10Empty
import Derived.Shelf.Strconv.ParseUint10Any
import Derived.Shelf.Strconv.ParseInt10
import Derived.Shelf.Strconv.RangeError
import Derived.Shelf.Strconv.ToErrorRange
import Derived.Shelf.Strconv.ParseUintEmpty
import Derived.Shelf.Strconv.ParseUint10b64
import Derived.Shelf.Strconv.ParseUint10b32
import Derived.Shelf.Strconv.ParseUint10b16
import Derived.Shelf.Strconv.ParseUint10b8
import Derived.Shelf.Strconv.ParseUint10At
import Derived.Shelf.Strconv.ParseInt10At64
import Derived.Shelf.Strconv.ParseInt10At32
import Derived.Shelf.Strconv.ParseInt10At16
import Derived.Shelf.Strconv.ParseInt10At8
import Derived.Shelf.Strconv.ParseInt10All
import Derived.Shelf.Strconv.ParseIntPublic10
import Derived.Shelf.Strconv.ErrVarParseInt
import Derived.Shelf.Strings.Search1
import Derived.Shelf.Strings.Search2
import Derived.Shelf.Strings.Search3
import Derived.Shelf.Strings.Shaped
import Derived.Shelf.Sort.Plain
import Derived.Shelf.Strings.Prefix
import Derived.Shelf.Strings.Fields
import Derived.Shelf.Strings.SplitShaped
import Derived.Shelf.Unicode.Latin
import Derived.Shelf.Unicode.Decode
import Derived.Shelf.Unicode.DecodeSlow
import Derived.Shelf.Unicode.DecodeAny
import Derived.Shelf.Unicode.Is16White
import Derived.Shelf.Unicode.IsSpaceAny
import Derived.Shelf.Unicode.DecodeLast
import Derived.Shelf.Unicode.Is16WhiteD
import Derived.Shelf.Unicode.IsSpaceAnyD
import Derived.Shelf.Strings.FieldsAny
import Derived.Shelf.Strings.FieldsFuncAny
import Derived.Shelf.Unicode.CaseLookup
import Derived.Shelf.Unicode.CaseConvert
import Derived.Shelf.Unicode.CaseTo
import Derived.Shelf.Unicode.CaseLaid
import Derived.Shelf.Strings.MapAny
import Derived.Shelf.Strings.CaseAny
import Derived.Shelf.Unicode.Is16Any
import Derived.Shelf.Unicode.Is32Any
import Derived.Shelf.Unicode.ExclAny
import Derived.Shelf.Slices.Turned
import Derived.Shelf.Slices.CompactS
import Derived.Shelf.Slices.Cells
import Derived.Shelf.Slices.In.SortNone
import Derived.Ground.SlgnProg
import Derived.Shelf.SlicesE.Clone
import Derived.Sort.OwnSorted
import Derived.Test.YtjnafjgonoficaaGreatDoorF18
import Derived.Test.YtjnafjgonoficaaGreatDoorF20
import Derived.Test.YtjnafjgonoficaaGreatDoorProg
import Derived.Test.YtjnafjgonoficaaGreatDoorF17
set_option linter.unusedVariables false
set_option linter.unusedSimpArgs false
namespace Go.Proofs.YtjnafjgonoficaaGreatDoor
open Go.RowKit Go.Proofs.YtjnafjgonoficaaGreatDoorW.PrintWords
def strCells (l:List ByteArray):List Value:=l.map Value.string
theorem strCells_one (l:List ByteArray):∀ u ∈ strCells l,u.oneCell'=true:=by
  intro u hu
  obtain ⟨s,-,rfl⟩:=List.mem_map.1 hu
  rfl
theorem str_append_own {ops:Array Oper} {rest:List Oper} {o:Oper} {a:Act} {Q:Exit → Act → World → Prop} {W:World} (base base2:Nat) (hgd:o.guard=none) (s x:Operand)
    (ho:o.op=.call { callee:=.builtin .append,args:=#[s,x],argTypes:=#[62,62] }) (v v2:Value) (D L:List ByteArray) (hs:a.eval s=v) (hx:a.eval x=v2)
    (H1:W.ownsRow base 9 1 v D.length (strCells D)) (H2:W.ownsRow base2 9 1 v2 L.length (strCells L)) (hbase:base ≤ W.heap.size) (hl:D.length + L.length ≤ 1000000000000)
    (h:∀ v1 w1,w1.ownsRow base 9 1 v1 (D ++ L).length (strCells (D ++ L)) → W.grownBy w1 v.ownBlock → (v1.ownBlock=v.ownBlock ∨ ∃ b,v1.ownBlock=some b∧W.heap.size ≤ b) → wpList Tryz.prog ops Q rest (a.put o.dst v1) w1) :
    wpList Tryz.prog ops Q (o :: rest) a W:=by
  obtain ⟨i0,hi,hz0,hz1,hz2⟩:=info_parts info9
  have hc:=fun g=>H2.cells (g:=g)
  rcases H2.2 with ⟨rfl,hn⟩ | ⟨g,cap,cur,rfl,hb,hh,h1,h2,-,-⟩
  · obtain rfl:L=[]:=List.eq_nil_of_length_eq_zero hn
    have hr:(Builtin.append_ #[62,62] o.type #[v,.slice none 0 0]).run Tryz.prog W=.ok v W:=by
      rcases H1.2 with ⟨rfl,hn⟩ | ⟨g,cap,cur,rfl,_,_,hnc,_⟩
      · simp [Builtin.append_,run_underlying Tryz.underlying62,sizeOf,typeInfo,hi,Builtin.lenOf,Builtin.firstCells]
      · simp [Builtin.append_,run_underlying Tryz.underlying62,sizeOf,typeInfo,hi,Builtin.lenOf,Builtin.firstCells,hnc,storeCells]
    refine wpList_plain hgd fun K hK => ?_
    unfold Oper.wp execOp
    simp only [ho,resolve,invoke,builtin,Sem.run_bind,Sem.run_pure,Result.andThen_ok,List.map_toArray,List.map_cons,List.map_nil,hs,hx,hr]
    exact hK _ _ (h v W (by simpa using H1) (World.grownBy.refl W _) (.inl rfl))
  · refine wpList_append_own_at W hgd s x 62 ho base 9 i0 _ 1 16 Tryz.underlying62 hi hz0 hz1 hz2 rfl (by omega) v D.length (strCells D) hs H1 ⟨g,0,none⟩ L.length cap (strCells L) hx (by unfold strCells;simp) (hc g rfl) (strCells_one L) (by unfold maxLen;omega) (by omega) hbase ?_
    intro v' w' e1 e2 _ e3
    exact h v' w' (by unfold strCells at e1 ⊢;rw [List.length_append,List.map_append];exact e1) e2 (e3.imp id fun e=>⟨_,e,Nat.le_refl _⟩)
theorem own_same {w W:World} {base:Nat} {e:TypeId} {size n:Nat} {v:Value} {xs:List Value} (h:w.ownsRow base e size v n xs) (hk:∀ k,base ≤ k → k < w.heap.size → W.heap[k]? = w.heap[k]?):W.ownsRow base e size v n xs:=by
  rcases h with ⟨h1,h2 | ⟨g,cap,cur,e1,hb,hh,h3⟩⟩
  · exact ⟨h1,.inl h2⟩
  · exact ⟨h1,.inr ⟨g,cap,cur,e1,hb,(hk g hb (Array.getElem?_eq_some_iff.1 hh).1).trans hh,h3⟩⟩
namespace Lx
def askG (L:List Tok) (g:G):List ByteArray:=(condsL L (g.lines.take (g.lines.length - 1))).flatMap Cn.names
def askGs (L:List Tok) (gs:List G):List ByteArray:=gs.flatMap (askG L)
theorem names_len (t:Tok) (c:Cn) (h:condOf t=some c):c.names.length ≤ t.t.size + 1:=by
  unfold condOf at h
  split at h
  · cases h
    have h1:=wdOf_len t
    have h2:=namesW_len (wdOf t).tail
    rw [List.length_tail] at h2
    show (namesW (wdOf t).tail).length ≤ _
    omega
  · split at h
    · cases h
      show (if _ then _ else _:List ByteArray).length ≤ _
      split <;> simp
    · cases h
theorem condsL_mem (L:List Tok) (xs:List Int) (c:Cn) (h:c ∈ condsL L xs):∃ t ∈ L,condOf t=some c:=by
  unfold condsL at h
  obtain ⟨x,-,h2⟩:=List.mem_filterMap.1 h
  cases hl:L[x.toNat]? with
  | none=>rw [hl] at h2;cases h2
  | some t=>rw [hl] at h2;exact ⟨t,List.mem_of_getElem? hl,h2⟩
theorem lines_len (L:List Tok):(groups (L.map kindOf)).1.length ≤ L.length∧∀ g ∈ (groups (L.map kindOf)).1,g.lines.length ≤ L.length:=by
  unfold groups groupsC
  split
  · exact ⟨Nat.zero_le _,fun g hg=>by cases hg⟩
  · cases hr:grun 0 gs0 (L.map kindOf) 0 with
    | inr n=>exact ⟨Nat.zero_le _,fun g hg=>by cases hg⟩
    | inl S =>
      have h:=sm_run 0 _ gs0 S 0 hr sm0
      dsimp only
      split
      · refine ⟨by have:=h.1;rw [List.length_map] at this;simp at this ⊢;exact this,fun g hg => ?_⟩
        have:=(h.2 g hg).1
        rw [List.length_map] at this
        omega
      · exact ⟨Nat.zero_le _,fun g hg=>by cases hg⟩
end Lx
theorem own_blk {w:World} {base:Nat} {e:TypeId} {size n:Nat} {v:Value} {xs:List Value} (h:w.ownsRow base e size v n xs):∀ k,v.ownBlock=some k → base ≤ k∧k < w.heap.size:=by
  intro k hk
  rcases h.2 with ⟨rfl,-⟩ | ⟨g,cap,cur,rfl,hb,hh,-⟩
  · cases hk
  · have e:some g=some k:=hk
    rw [← Option.some.inj e]
    exact ⟨hb,(Array.getElem?_eq_some_iff.1 hh).1⟩
theorem Cns.get {w:World} {base:Nat} {v:Value} {cl:List Lx.Cn} (h:Cns w base v cl) {i:Nat} {c:Lx.Cn} (hc:cl[i]? = some c):∃ g cp fv A C,v=.slice (some ⟨g,0,none⟩) cl.length cp∧base ≤ g∧g < w.heap.size∧w.cell? ⟨g,i * 2,none⟩=some fv∧w.cell? ⟨g,i * 2 + 1,none⟩=some (.slice A c.names.length C)∧FunAt w fv c∧w.ownsRow base 9 1 (.slice A c.names.length C) c.names.length (strCells c.names):=by
  obtain ⟨ps,h1,h2,h3⟩:=h
  have hi:=(List.getElem?_eq_some_iff.1 hc).1
  obtain ⟨p,hp⟩:∃ p,ps[i]? = some p:=⟨_,List.getElem?_eq_getElem (by omega)⟩
  obtain ⟨hf,hn⟩:=h3 i p c hp hc
  obtain ⟨g,cp,rfl,-,-⟩:=h2.form (by omega)
  obtain ⟨A,C,e⟩:=own_slice hn
  obtain ⟨k0,k1⟩:=cnCells_at ps i p hp
  have hl:=cnCells_len ps
  obtain ⟨cur,hcur,hbg⟩:=own_heap h2
  refine ⟨g,cp,p.1,A,C,rfl,hbg,blk_lt hcur,by rw [h2.cellAt (i * 2) (by omega)];exact k0,by rw [h2.cellAt (i * 2 + 1) (by omega),← e];exact k1,hf,?_⟩
  rw [← e];exact hn
set_option maxRecDepth 100000 in
set_option maxHeartbeats 8000000 in
theorem names_ok (v:Value) (L:List Lx.Tok) (w:World) (hT:Tks w v L) (hlen:L.length ≤ 3001) (hs3:∀ t ∈ L,t.t.size ≤ 3000) (hL:Laid w) (hE:(Lx.groups (L.map Lx.kindOf)).2.1=0) (OUT:List ByteArray)
    (hsort:∀ (W:World) (base:Nat) (sv:Value) (l:List ByteArray),l=Lx.askGs L (Lx.groups (L.map Lx.kindOf)).1 → l.length ≤ 1000000000000 → W.ownsRow base 9 1 sv l.length (strCells l) → Calls Tryz.prog 57 #[sv] W fun e w'=>e=.returned (.tuple #[])∧W.grownBy w' sv.ownBlock ∧
      Calls Tryz.prog 58 #[sv] w' fun e2 w2 => ∃ rv,e2=.returned rv∧w2.ownsRow base 9 1 rv OUT.length (strCells OUT)∧w'.grownBy w2 sv.ownBlock) :
    Calls Tryz.prog 32 #[v] w fun e w' => ∃ rv,e=.returned (.tuple #[rv,.int .i64 0])∧w'.ownsRow w.heap.size 9 1 rv OUT.length (strCells OUT)∧Below w.heap.size w w':=by
  have hs:∀ t ∈ L,t.t.size ≤ 20000:=fun t ht=>Nat.le_trans (hs3 t ht) (by omega)
  have hll:=Lx.lines_len L
  have hgr:=condGroups_calls v L w hT (by omega) hs hL.maxLen hL.blanks (by have:=hL.size;omega)
  have hsm:Lx.Small (Lx.groups (L.map Lx.kindOf)).1:=Lx.groups_small 0 (L.map Lx.kindOf) (by rw [List.length_map];omega)
  have hin:=Lx.groups_in L
  rw [hE] at hgr
  obtain ⟨gs,hgs⟩:∃ gs,(Lx.groups (L.map Lx.kindOf)).1=gs:=⟨_,rfl⟩
  rw [hgs] at hgr hin hsm hsort hll
  obtain ⟨gn,hgn⟩:∃ gn,gs.length=gn:=⟨_,rfl⟩
  have hgl:=hsm.1
  have hgl2:=hll.1
  rw [hgn] at hgl hgl2
  have HSORT:=mkA hsort
  have HGN:=mkA hgn
  have HGR:=mkA hgr
  have HT:=mkA hT
  have HL:=mkA hL
  have HS:=mkA hs
  have HIN:=mkA hin
  have HSM:=mkA hsm
  have HLL:=mkA hll
  have HS3:=mkA hs3
  obtain ⟨A,c,rfl,-⟩:=hT
  obtain ⟨n,hn⟩:∃ n,L.length=n:=⟨_,rfl⟩
  have HN:=mkA hn
  rw [hn] at HGR HT hlen hgl2 ⊢
  clear hs hL hE hgr hgs hgn hn hin hsm hsort hll hs3
  go_enter Tryz.func32,Tryz.ntmps32
  go_wp2_with (go_at_call 16;(refine HGR.out.mono ?_);rintro e w2 ⟨gv,rfl,hgrp,hb⟩;have HGRP:=mkA hgrp;have HB:=mkA hb;have hgv:∃ A c,gv=.slice A gn c:=(by obtain ⟨ls,e1,e2,e3⟩:=hgrp;exact own_slice (own_cast e2 HGN.out));obtain ⟨GA,GC,rfl⟩:=hgv;have hszz:=hb.size;clear hgrp hb)
  have HBW2:=HB
  obtain ⟨b2,hb2⟩:∃ b2,w2.heap.size=b2:=⟨_,rfl⟩
  have HB2:=mkA hb2
  have hsb:b2 ≤ w2.heap.size:=by omega
  have hwb2:w.heap.size ≤ b2:=by omega
  clear hb2 hszz
  go_loopg [7,23] gn (fun kq v7 v23 W => ∃ (i:Nat) (acc:List ByteArray),v23=.int .i64 i∧Aside0 (i ≤ gn∧kq=gn - i∧acc=Lx.askGs L (gs.take i)∧acc.length ≤ i * 10000000)∧Aside0 (W.ownsRow b2 9 1 v7 acc.length (strCells acc))∧Aside0 (Below b2 w2 W)∧b2 ≤ W.heap.size)
  case atStart=>exact ⟨0,[],rfl,⟨by omega,rfl,rfl,by simp⟩,⟨own_nil _ _ _ _⟩,⟨Below.refl _ _⟩,hsb⟩
  case round =>
    obtain ⟨i,acc,rfl,HJ,HACC,HBK,hszk⟩:=hrel
    have hi:=HJ.out.1
    have hi0:(0:Int) ≤ (i:Int):=Int.natCast_nonneg _
    have hacl:=HJ.out.2.2.2
    by_cases hlt:i < gn
    · obtain ⟨g,hg⟩:∃ g,gs[i]? = some g:=⟨_,List.getElem?_eq_getElem (by have:=HGN.out;omega)⟩
      have hgm:=List.mem_of_getElem? hg
      obtain ⟨gb,c',gl,cl,hgv,a0,a1,a2,a3,hl0,hlc,hcm,hglb,hgbb,hat⟩:=HGRP.out.at i g hg
      simp only [Value.slice.injEq] at hgv
      obtain ⟨rfl,-,rfl⟩:=hgv
      have hgb2:gb < b2:=by have:=HB2.out;omega
      have hgl2:gl < b2:=by have:=HB2.out;omega
      have a0:=(HBK.out.cell (p:=⟨gb,_,none⟩) hgb2).trans a0
      have a1:=(HBK.out.cell (p:=⟨gb,_,none⟩) hgb2).trans a1
      have a2:=(HBK.out.cell (p:=⟨gb,_,none⟩) hgb2).trans a2
      have a3:=(HBK.out.cell (p:=⟨gb,_,none⟩) hgb2).trans a3
      have hgbw:gb < wr.heap.size:=by omega
      have hlsm:=(HSM.out.2 g hgm).1
      obtain ⟨m,hm⟩:∃ m,g.lines.length=m + 1:=⟨g.lines.length - 1,by omega⟩
      have hm5:m ≤ 100000:=by omega
      have hgx:Lx.askGs L (gs.take (i + 1))=acc ++ Lx.askG L g:=by
        unfold Lx.askGs
        rw [take_snoc gs i g hg,List.flatMap_append,HJ.out.2.2.1]
        simp [Lx.askGs]
      have hB12:Below w.heap.size w wr:=HBW2.out.trans (HBK.out.mono (by omega))
      have hba:Below wr.heap.size wr (wr.alloc (.cells #[.slice (some ⟨gl,0,none⟩) (m + 1) cl,.int .i64 g.br,.int .i64 g.par,.int .i64 g.bch] 41)):=(Below.refl _ _).alloc (Nat.le_refl _) _
      have hbwa:=hB12.trans (hba.mono hB12.size)
      have hIa:Ints (wr.alloc (.cells #[.slice (some ⟨gl,0,none⟩) (m + 1) cl,.int .i64 g.br,.int .i64 g.par,.int .i64 g.bch] 41)) (.slice (some ⟨gl,0,none⟩) (m + 1) cl) g.lines:=by
        refine ⟨some ⟨gl,0,none⟩,cl,by rw [hm],by omega,hcm,.inr ⟨gl,0,rfl,fun k t ht => ?_,by simp;omega⟩⟩
        exact (hba.cell (p:=⟨gl,_,none⟩) (by show gl < _;omega)).trans ((HBK.out.cell (p:=⟨gl,_,none⟩) hgl2).trans (hat k t ht))
      have hLa:=HL.out.below hbwa
      have hcd:=conds_calls _ _ _ L g.lines g.br g.par g.bch m (HT.out.below hbwa) hIa hm hm5 (fun x hx=>by have:=HIN.out g hgm x hx;rw [HN.out] at this ⊢;exact this) (by rw [HN.out];omega) HS.out hLa.maxLen hLa.blanks (by have:=hLa.size;omega)
        (fun x hx t ht he=>by obtain ⟨w0,r,p,e1,e2,e3,-⟩:=Lx.expr_words t he;exact ⟨w0,r,p,e1,e2,e3⟩)
      obtain ⟨CL,hCL⟩:∃ CL,Lx.condsL L (g.lines.take m)=CL:=⟨_,rfl⟩
      have hdg:Lx.askG L g=CL.flatMap Lx.Cn.names:=by
        unfold Lx.askG
        rw [hm,Nat.add_sub_cancel,hCL]
      rw [hCL] at hcd
      obtain ⟨nc,hnc⟩:∃ nc,CL.length=nc:=⟨_,rfl⟩
      have hnc5:nc ≤ 3001:=by
        rw [← hnc,← hCL]
        have h1:=Lx.condsL_len L (g.lines.take m)
        have h2:=HLL.out.2 g hgm
        rw [List.length_take] at h1
        have:=HN.out
        omega
      have hcnl:∀ c ∈ CL,c.names.length ≤ 3001:=by
        intro c hc
        rw [← hCL] at hc
        obtain ⟨t,ht,e⟩:=Lx.condsL_mem L _ c hc
        have h1:=Lx.names_len t c e
        have h2:=HS3.out t ht
        omega
      have HCNL:=mkA hcnl
      have HGX:=mkA (show Lx.askGs L (gs.take (i + 1))=acc ++ CL.flatMap Lx.Cn.names by rw [hgx,hdg])
      have HNC:=mkA hnc
      have HCD:=mkA hcd
      have HBA:=mkA hba
      have HSA:Aside0 (wr.heap.size < (wr.alloc (.cells #[.slice (some ⟨gl,0,none⟩) (m + 1) cl,.int .i64 g.br,.int .i64 g.par,.int .i64 g.bch] 41)).heap.size):=⟨by simp⟩
      rw [hm] at a0
      clear hg hgm hat hcd hba hbwa hIa hLa hCL hnc hB12 hglb hgbb hl0 hlc hcm hm hlsm hgx hdg hcnl
      go_wp2_with (first | (go_at_call 53;(refine (HCD.out).mono ?_);rintro e w3 ⟨v3,rfl,hcn,hb⟩;have hv3:∃ A c,v3=.slice A nc c:=(by obtain ⟨ps,e1,e2,e3⟩:=hcn;exact own_slice (own_cast e2 HNC.out));obtain ⟨A3,c3,rfl⟩:=hv3;have HCN3:=mkA hcn;have hB3:=(HBA.out.trans (hb.mono (Nat.le_of_lt HSA.out)));have HB3:=mkA hB3;clear hcn hb hB3))
      obtain ⟨wo,rfl⟩:∃ wo:World,wo=wr:=⟨_,rfl⟩
      obtain ⟨base3,hbase3⟩:∃ base3,(wo.alloc (.cells #[.slice (some ⟨gl,0,none⟩) (m + 1) cl,.int .i64 g.br,.int .i64 g.par,.int .i64 g.bch] 41)).heap.size=base3:=⟨_,rfl⟩
      have HBS3:Aside0 (wo.heap.size < base3):=⟨by rw [← hbase3];exact HSA.out⟩
      have HCN4:=mkA (show Cns w3 base3 (.slice A3 nc c3) CL by rw [← hbase3];exact HCN3.out)
      clear hbase3
      have hw3b:b2 ≤ w3.heap.size:=by have:=HB3.out.size;omega
      go_loopg [7,31] nc (fun kq v7 v31 W => ∃ (j:Nat) (acc2:List ByteArray),v31=.int .i64 j∧Aside0 (j ≤ nc∧kq=nc - j∧acc2=acc ++ (CL.take j).flatMap Lx.Cn.names∧acc2.length ≤ i * 10000000 + j * 3001)∧Aside0 (W.ownsRow b2 9 1 v7 acc2.length (strCells acc2))∧Aside0 (Below b2 w2 W)∧Aside0 (∀ k,base3 ≤ k → k < w3.heap.size → W.heap[k]? = w3.heap[k]?)∧Aside0 (∀ k,v7.ownBlock=some k → k < base3 ∨ w3.heap.size ≤ k)∧w3.heap.size ≤ W.heap.size)
      case atStart=>exact ⟨0,acc,rfl,⟨by omega,rfl,by simp,Nat.le_trans hacl (Nat.le_add_right _ _)⟩,⟨own_kept_no HACC.out (grown_below (World.grownBy.refl _ none) HB3.out)⟩,⟨HBK.out.trans (HB3.out.mono hszk)⟩,⟨fun k _ _=>rfl⟩,⟨fun k hk => .inl (Nat.lt_trans (own_blk HACC.out k hk).2 HBS3.out)⟩,Nat.le_refl _⟩
      case round =>
        obtain ⟨j,acc2,rfl,HK,HACC2,HBK2,HKP,HOB,hszr⟩:=hrel
        have hj:=HK.out.1
        have hj0:(0:Int) ≤ (j:Int):=Int.natCast_nonneg _
        by_cases hjn:j < nc
        · obtain ⟨cd,hcd⟩:∃ cd,CL[j]? = some cd:=⟨_,List.getElem?_eq_getElem (by have:=HNC.out;omega)⟩
          obtain ⟨g3,cp3,fv,NA,NC,e',hg3b,hg3,c0,c1,hF,hnm⟩:=HCN4.out.get hcd
          simp only [Value.slice.injEq] at e'
          obtain ⟨rfl,-,rfl⟩:=e'
          have c0:=(World.cell?_of_block (a:=⟨g3,j * 2,none⟩) (HKP.out g3 hg3b hg3)).trans c0
          have c1:=(World.cell?_of_block (a:=⟨g3,j * 2 + 1,none⟩) (HKP.out g3 hg3b hg3)).trans c1
          have hg3r:g3 < wr.heap.size:=Nat.lt_of_lt_of_le hg3 hszr
          have hcl:=HCNL.out cd (List.mem_of_getElem? hcd)
          have hnx:(CL.take (j + 1)).flatMap Lx.Cn.names=(CL.take j).flatMap Lx.Cn.names ++ cd.names:=by
            rw [take_snoc CL j cd hcd,List.flatMap_append];simp
          obtain ⟨nms,hnms⟩:∃ nms,cd.names=nms:=⟨_,rfl⟩
          rw [hnms] at hnx hcl c1 hnm
          have hfv:∃ fn caps,fv=.func fn #[] caps:=by
            cases cd with
            | expr rest l=>obtain ⟨b,e,-⟩:=hF;exact ⟨_,_,e⟩
            | dfn name kind l=>obtain ⟨b,c,e,-⟩:=hF;exact ⟨_,_,e⟩
          obtain ⟨fn,caps,rfl⟩:=hfv
          obtain ⟨nn,hnn⟩:∃ nn,nms.length=nn:=⟨_,rfl⟩
          rw [hnn] at c1 hnm
          have hnm:=own_cast hnm hnn.symm
          have HNN:=mkA hnn
          have HNM:=mkA (own_same (W:=wr.alloc (.cells #[.func fn #[] caps,.slice NA nn NC] 102)) hnm (fun k h1 h2=>((World.grownBy_alloc wr (.cells #[.func fn #[] caps,.slice NA nn NC] 102) none).block k (by omega) (by simp)).trans (HKP.out k h1 h2)))
          have HNX:=mkA hnx
          have HCLN:=mkA hcl
          have HAC4:=mkA (own_kept_no HACC2.out (World.grownBy_alloc wr (.cells #[.func fn #[] caps,.slice NA nn NC] 102) none))
          have hacc2:acc2.length + nms.length ≤ 1000000000000:=by have:=HK.out.2.2.2;omega
          clear hcd hnx hnms hnn hF hnm hcl
          go_wp2_with (first | (at_builtin;refine str_append_own b2 base3 rfl (.tmp 35) (.tmp 37) rfl u7 (.slice NA nn NC) acc2 nms (by rfl) (by rfl) HAC4.out HNM.out (by simp;omega) hacc2 ?_;intro v5 w5 hv5 hg5 hat5;have HV5:=mkA hv5;have HG5:=mkA hg5;have HAT5:=mkA hat5;have hsz5:wr.heap.size < w5.heap.size:=(by have:=hg5.size;simp at this;omega);clear hv5 hg5 hat5))
          go_roundg (nc - (j + 1))
          case measure=>have:=HK.out;omega
          case rel =>
            refine ⟨j + 1,acc2 ++ nms,by go_num,⟨by omega,rfl,by rw [HNX.out,HK.out.2.2.1,List.append_assoc],?_⟩,HV5,⟨?_⟩,⟨fun k h1 h2 => ?_⟩,⟨fun k hk => ?_⟩,by omega⟩
            · have h1:=HCLN.out
              have h2:=HK.out.2.2.2
              rw [List.length_append,Nat.succ_mul]
              omega
            · exact (HBK2.out.alloc (by omega) _).grown HG5.out (by simp;omega) (fun k hk=>(own_blk HACC2.out k hk).1)
            · refine (HG5.out.block k (by simp;omega) (fun e => ?_)).trans (((World.grownBy_alloc wr (.cells #[.func fn #[] caps,.slice NA nn NC] 102) none).block k (by omega) (by simp)).trans (HKP.out k h1 h2))
              have:=HOB.out k e.symm
              omega
            · rcases HAT5.out with e | ⟨b,e,hb⟩
              · exact HOB.out k (by rw [← e];exact hk)
              · rw [hk] at e
                have e:=Option.some.inj e
                simp at hb
                right;omega
        · obtain rfl:j=nc:=by omega
          go_wp2_with fail
          go_roundg (gn - (i + 1))
          case measure=>have:=HJ.out;omega
          case rel=>exact ⟨i + 1,acc2,by go_num,⟨by omega,rfl,by rw [HGX.out,HK.out.2.2.1,List.take_of_length_le (by have:=HNC.out;omega)],by have:=HK.out.2.2.2;omega⟩,HACC2,HBK2,by omega⟩
    · obtain rfl:i=gn:=by omega
      have e1:acc=Lx.askGs L gs:=by rw [HJ.out.2.2.1,List.take_of_length_le (by have:=HGN.out;omega)]
      have hso:=HSORT.out wr b2 u7 acc e1 (by omega) HACC.out
      have HSO:=mkA hso
      have hsl:∃ A c,u7=.slice A acc.length c:=own_slice HACC.out
      have HACU:=HACC
      obtain ⟨UA,UC,rfl⟩:=hsl
      clear e1 hso
      go_wp2_with (first | (go_at_call 57;(refine (HSO.out).mono ?_);rintro e w3 ⟨rfl,hg3,hc3⟩;have HG3:=mkA hg3;have HC3:=mkA hc3;clear hg3 hc3) | (go_at_call 58;(refine (HC3.out).mono ?_);rintro e w4 ⟨rv,rfl,ho4,hg4⟩;have HO4:=mkA ho4;have HG4:=mkA hg4;clear ho4 hg4))
      go_ret2
      have hkb:∀ k,(Value.slice UA acc.length UC).ownBlock=some k → b2 ≤ k:=fun k hk=>(own_blk HACU.out k hk).1
      have hbw:=HBW2.out.trans (((HBK.out.grown HG3.out hszk hkb).grown HG4.out (Nat.le_trans hszk HG3.out.size) hkb).mono hwb2)
      refine ⟨rv,rfl,⟨HO4.out.1,?_⟩,hbw⟩
      rcases HO4.out.2 with h | ⟨g,cap,cur,h1,h2,h3⟩
      · exact .inl h
      · exact .inr ⟨g,cap,cur,h1,Nat.le_trans hwb2 h2,h3⟩
end Go.Proofs.YtjnafjgonoficaaGreatDoor
namespace Go.Proofs
open Go.Shelf
def Tryz.lays190_ren:Go.Shelf.Ren:=⟨fun | 190=>57 | 125=>94 | 258=>93 | 128=>118 | 129=>119 | 302=>109 | 303=>110 | 304=>111 | 305=>112 | 306=>113 | 307=>114 | 308=>115 | 309=>116 | 310=>117 | 333=>146 | 329=>147 | 330=>148 | 334=>149 | 335=>150 | 336=>151 | 344=>175 | n=>n,fun | 31=>62 | 9=>9 | 3=>3 | 46=>132 | 0=>0 | 51=>162 | 53=>164 | 4=>4 | 183=>156 | 182=>155 | 131=>51 | 5=>5 | 218=>178 | 222=>182 | 228=>200 | 229=>134 | n=>n,fun | n=>n⟩
theorem Tryz.lays190:Go.Proofs.Lays.n190 Tryz.prog Tryz.lays190_ren:={
  mixed:=by kernel_rfl
  f125:=Tryz.func94.trans (congrArg some (by kernel_rfl))
  f128:=Tryz.func118.trans (congrArg some (by kernel_rfl))
  f129:=Tryz.func119.trans (congrArg some (by kernel_rfl))
  f190:=Tryz.func57.trans (congrArg some (by kernel_rfl))
  f258:=Tryz.func93.trans (congrArg some (by kernel_rfl))
  f302:=Tryz.func109.trans (congrArg some (by kernel_rfl))
  f303:=Tryz.func110.trans (congrArg some (by kernel_rfl))
  f304:=Tryz.func111.trans (congrArg some (by kernel_rfl))
  f305:=Tryz.func112.trans (congrArg some (by kernel_rfl))
  f306:=Tryz.func113.trans (congrArg some (by kernel_rfl))
  f307:=Tryz.func114.trans (congrArg some (by kernel_rfl))
  f308:=Tryz.func115.trans (congrArg some (by kernel_rfl))
  f309:=Tryz.func116.trans (congrArg some (by kernel_rfl))
  f310:=Tryz.func117.trans (congrArg some (by kernel_rfl))
  f329:=Tryz.func147.trans (congrArg some (by kernel_rfl))
  f330:=Tryz.func148.trans (congrArg some (by kernel_rfl))
  f333:=Tryz.func146.trans (congrArg some (by kernel_rfl))
  f334:=Tryz.func149.trans (congrArg some (by kernel_rfl))
  f335:=Tryz.func150.trans (congrArg some (by kernel_rfl))
  f336:=Tryz.func151.trans (congrArg some (by kernel_rfl))
  f344:=Tryz.func175.trans (congrArg some (by kernel_rfl))
  t0:=Tryz.underlying0
  a0:=Tryz.isAgg0
  z0:=Tryz.sizeOf0
  v0:=Tryz.zeroValue0
  t3:=Tryz.underlying3
  a3:=Tryz.isAgg3
  z3:=Tryz.sizeOf3
  v3:=Tryz.zeroValue3
  t4:=Tryz.underlying4
  a4:=Tryz.isAgg4
  z4:=Tryz.sizeOf4
  v4:=Tryz.zeroValue4
  t5:=Tryz.underlying5
  a5:=Tryz.isAgg5
  z5:=Tryz.sizeOf5
  v5:=Tryz.zeroValue5
  t9:=Tryz.underlying9
  a9:=Tryz.isAgg9
  z9:=Tryz.sizeOf9
  v9:=Tryz.zeroValue9
  t31:=Tryz.underlying62
  a31:=Tryz.isAgg62
  z31:=Tryz.sizeOf62
  v31:=Tryz.zeroValue62
  t46:=Tryz.underlying132
  a46:=Tryz.isAgg132
  z46:=Tryz.sizeOf132
  v46:=Tryz.zeroValue132
  t51:=Tryz.underlying162
  a51:=Tryz.isAgg162
  z51:=Tryz.sizeOf162
  v51:=Tryz.zeroValue162
  t53:=Tryz.underlying164
  a53:=Tryz.isAgg164
  z53:=Tryz.sizeOf164
  v53:=Tryz.zeroValue164
  t131:=Tryz.underlying51
  a131:=Tryz.isAgg51
  z131:=Tryz.sizeOf51
  v131:=Tryz.zeroValue51
  t182:=Tryz.underlying155
  a182:=Tryz.isAgg155
  z182:=Tryz.sizeOf155
  v182:=Tryz.zeroValue155
  t183:=Tryz.underlying156
  a183:=Tryz.isAgg156
  z183:=Tryz.sizeOf156
  v183:=Tryz.zeroValue156
  t218:=Tryz.underlying178
  a218:=Tryz.isAgg178
  z218:=Tryz.sizeOf178
  v218:=Tryz.zeroValue178
  t222:=Tryz.underlying182
  a222:=Tryz.isAgg182
  z222:=Tryz.sizeOf182
  v222:=Tryz.zeroValue182
  t228:=Tryz.underlying200
  a228:=Tryz.isAgg200
  z228:=Tryz.sizeOf200
  v228:=Tryz.zeroValue200
  t229:=Tryz.underlying134
  a229:=Tryz.isAgg134
  z229:=Tryz.sizeOf134
  v229:=Tryz.zeroValue134 }
open Go.Sort Go.RowKit in
theorem Tryz.slices_Sort_string (blk off cap:Nat) (ss:List (List UInt8)) (w:World) (hH:Holds encStr w blk off ss.toArray) (hblk:blk < w.heap.size) (hsz:ss.length < 4611686018427387904) :
    Calls Tryz.prog 57 #[.slice (some ⟨blk,off,none⟩) ss.length cap] w fun e w' =>
      e=.returned (.tuple #[])∧∃ n os,w'=grow (putRow encStr (Sort.ahead w n) blk off (ss.mergeSort fun x y=>decide (x ≤ y)).toArray) os:=Any.slices_Sort_string Tryz.lays190 blk off cap ss w hH hblk hsz
def Tryz.lays194_ren:Go.Shelf.Ren:=⟨fun | 194=>58 | n=>n,fun | 31=>62 | 9=>9 | 3=>3 | 4=>4 | 0=>0 | n=>n,fun | n=>n⟩
theorem Tryz.lays194:Go.Proofs.Lays.n194 Tryz.prog Tryz.lays194_ren:={
  mixed:=by kernel_rfl
  f194:=Tryz.func58.trans (congrArg some (by kernel_rfl))
  t0:=Tryz.underlying0
  a0:=Tryz.isAgg0
  z0:=Tryz.sizeOf0
  v0:=Tryz.zeroValue0
  t3:=Tryz.underlying3
  a3:=Tryz.isAgg3
  z3:=Tryz.sizeOf3
  v3:=Tryz.zeroValue3
  t4:=Tryz.underlying4
  a4:=Tryz.isAgg4
  z4:=Tryz.sizeOf4
  v4:=Tryz.zeroValue4
  t9:=Tryz.underlying9
  a9:=Tryz.isAgg9
  z9:=Tryz.sizeOf9
  v9:=Tryz.zeroValue9
  t31:=Tryz.underlying62
  a31:=Tryz.isAgg62
  z31:=Tryz.sizeOf62
  v31:=Tryz.zeroValue62 }
open Go.RowKit Go.Lib Go.Sort in
theorem Tryz.slices_Compact_string (blk off cap:Nat) (zs:List (List UInt8)) (w:World) (hH:Holds encStr w blk off zs.toArray) (hsz:zs.length ≤ 9223372036854775807) (hcap:zs.length ≤ cap) :
    Calls Tryz.prog 58 #[.slice (some ⟨blk,off,none⟩) zs.length cap] w fun e w'=>e=.returned (.slice (some ⟨blk,off,none⟩) (Lib.compact zs).length cap)∧∃ q,w'=putRow encStr (Sort.ahead w q) blk off (Lib.compact zs ++ List.replicate (zs.length - (Lib.compact zs).length) []).toArray:=Any.slices_Compact_string Tryz.lays194 blk off cap zs w hH hsz hcap
open Go.RowKit Go.Lib Go.Sort in
theorem Tryz.slices_Compact_string_empty (a:Option Addr) (cap:Nat) (w:World) :
    Calls Tryz.prog 58 #[.slice a 0 cap] w fun e w'=>e=.returned (.slice a 0 cap)∧w'=w:=Any.slices_Compact_string_empty Tryz.lays194 a cap w
open Go.RowKit Go.Sort in
theorem Tryz.slices_Sort_string_none (p:Option Addr) (cap:Nat) (w:World) :
    Calls Tryz.prog 57 #[.slice p 0 cap] w fun e w'=>e=.returned (.tuple #[])∧w'=w:=Any.slices_Sort_string_none Tryz.lays190 p cap w
end Go.Proofs
namespace Go.Proofs.YtjnafjgonoficaaGreatDoor
open Go.RowKit Go.Sort Go.Lib
def bytesL (l:List ByteArray):List (List UInt8):=l.map fun b=>b.data.toList
def sortedL (l:List ByteArray):List (List UInt8):=(bytesL l).mergeSort fun x y=>decide (x ≤ y)
def outL (l:List ByteArray):List ByteArray:=(Lib.compact (sortedL l)).map fun b=>⟨b.toArray⟩
theorem cells_enc (l:List ByteArray):strCells l=(bytesL l).map encStr:=by
  unfold strCells bytesL
  rw [List.map_map]
  exact List.map_congr_left fun b _=>rfl
theorem enc_cells (ts:List (List UInt8)):ts.map encStr=strCells (ts.map fun b=>⟨b.toArray⟩):=by
  unfold strCells
  rw [List.map_map]
  exact List.map_congr_left fun b _=>rfl
theorem compact_len (zs:List (List UInt8)):(Lib.compact zs).length ≤ zs.length:=by
  unfold Lib.compact Lib.compactUpTo
  rw [List.length_map]
  exact Nat.le_trans (List.length_filter_le _ _) (by simp)
theorem sort_names (W:World) (base:Nat) (sv:Value) (l:List ByteArray) (hln:l.length ≤ 1000000000000) (h:W.ownsRow base 9 1 sv l.length (strCells l)):Calls Tryz.prog 57 #[sv] W fun e w'=>e=.returned (.tuple #[])∧W.grownBy w' sv.ownBlock ∧
    Calls Tryz.prog 58 #[sv] w' fun e2 w2 => ∃ rv,e2=.returned rv∧w2.ownsRow base 9 1 rv (outL l).length (strCells (outL l))∧w'.grownBy w2 sv.ownBlock:=by
  rcases h.2 with ⟨rfl,hn⟩ | ⟨g,cap,cur,rfl,hb,hh,h1,h2,h3,h4⟩
  · obtain rfl:l=[]:=List.eq_nil_of_length_eq_zero hn
    refine (Tryz.slices_Sort_string_none none 0 W).mono ?_
    rintro e w' ⟨rfl,rfl⟩
    refine ⟨rfl,World.grownBy.refl _ _,?_⟩
    refine (Tryz.slices_Compact_string_empty none 0 w').mono ?_
    rintro e2 w2 ⟨rfl,rfl⟩
    have:outL []=[]:=by unfold outL sortedL bytesL;simp [Lib.compact,Lib.compactUpTo]
    rw [this]
    exact ⟨_,rfl,⟨rfl,.inl ⟨rfl,rfl⟩⟩,World.grownBy.refl _ _⟩
  · have hle:(bytesL l).length=l.length:=by simp [bytesL]
    rw [Nat.mul_one,cells_enc,← hle] at h4
    rw [← hle] at h1 ⊢
    refine (Tryz.slices_Sort_string g 0 cap (bytesL l) W (holds_of_block hh h4) (Array.getElem?_eq_some_iff.1 hh).1 (by omega)).mono ?_
    rintro e w' ⟨rfl,n,os,rfl⟩
    refine ⟨rfl,grownBy_sorted _,?_⟩
    have hsl:(sortedL l).length=(bytesL l).length:=by unfold sortedL;simp
    have hcs:(putCells encStr 0 (sortedL l).toArray cur).size=cap:=by simp [putCells,h3]
    have ho2:=heap_sorted (n:=n) (os:=os) (sortedL l).toArray hh
    have hH:=holds_of_block ho2 (take_putCells cur (sortedL l) (by omega))
    rw [← hsl] at h1 ⊢
    refine (Tryz.slices_Compact_string g 0 cap (sortedL l) _ hH (by omega) h1).mono ?_
    rintro e2 w2 ⟨rfl,q,rfl⟩
    have hcl:=compact_len (sortedL l)
    obtain ⟨zs,hz⟩:∃ zs,Lib.compact (sortedL l) ++ List.replicate ((sortedL l).length - (Lib.compact (sortedL l)).length) []=zs:=⟨_,rfl⟩
    have hzl:zs.length=(sortedL l).length:=by rw [← hz];simp;omega
    have ho3:=heap_sorted (n:=q) (os:=#[]) zs.toArray ho2
    rw [grow_empty] at ho3
    have hg3:=grownBy_sorted (w:=grow (putRow encStr (Sort.ahead W n) g 0 (sortedL l).toArray) os) (g:=g) (n:=q) (os:=#[]) zs.toArray
    rw [grow_empty] at hg3
    have htk:=take_putCells (putCells encStr 0 (sortedL l).toArray cur) zs (by omega)
    rw [hz]
    have hol:(outL l).length=(Lib.compact (sortedL l)).length:=by unfold outL;simp
    refine ⟨_,rfl,?_,hg3⟩
    have hoe:strCells (outL l)=(Lib.compact (sortedL l)).map encStr:=(enc_cells _).symm
    rw [hol,hoe]
    refine ⟨by simp,.inr ⟨g,cap,_,rfl,hb,ho3,by omega,h2,by simp [putCells,h3],?_⟩⟩
    have h7:(zs.map encStr).take (Lib.compact (sortedL l)).length=(Lib.compact (sortedL l)).map encStr:=by
      rw [← hz,List.map_append,List.take_append_of_le_length (by simp),List.take_of_length_le (by simp)]
    have h8:=congrArg (List.take (Lib.compact (sortedL l)).length) htk
    rw [List.take_take,Nat.min_eq_left (by omega),h7] at h8
    rw [Nat.mul_one]
    exact h8
end Go.Proofs.YtjnafjgonoficaaGreatDoor
namespace Go.Proofs.YtjnafjgonoficaaGreatDoor
open Go.RowKit Go.Proofs.YtjnafjgonoficaaGreatDoorW.PrintWords
namespace Lx
def fixAt (CL:List Cn) (b:Nat):Bool:=match CL[b]? with | some c=>c.names.isEmpty | none=>false
noncomputable def truAt (CL:List Cn) (b:Nat):Bool:=match CL[b]? with | some c=>c.val [] | none=>false
noncomputable def deadF (CL:List Cn) (i:Int):Nat → Nat → Bool → List (Int × Int)
  | 0,_,_=>[]
  | n + 1,b,al=>(if (al || (fixAt CL b && !(truAt CL b)))=true then [(i,(b:Int))] else []) ++ deadF CL i n (b + 1) (al || (fixAt CL b && truAt CL b))
noncomputable def deadG (L:List Tok) (g:G) (i:Nat):List (Int × Int):=deadF (condsL L (g.lines.take (g.lines.length - 1))) i g.br.toNat 0 false
noncomputable def deadGs (L:List Tok):List G → Nat → List (Int × Int)
  | [],_=>[]
  | g :: r,i=>deadG L g i ++ deadGs L r (i + 1)
theorem deadGs_snoc (L:List Tok) (g:G):∀ (l:List G) (i:Nat),deadGs L (l ++ [g]) i=deadGs L l i ++ deadG L g (i + l.length)
  | [],i=>by simp [deadGs]
  | x :: r,i=>by
    rw [List.cons_append]
    unfold deadGs
    rw [deadGs_snoc L g r (i + 1),List.append_assoc,List.length_cons,show i + 1 + r.length=i + (r.length + 1) by omega]
noncomputable def deadL (L:List Tok):List (Int × Int):=deadGs L (groups (L.map kindOf)).1 0
theorem deadF_len (CL:List Cn) (i:Int):∀ (n b:Nat) (al:Bool),(deadF CL i n b al).length ≤ n
  | 0,_,_=>Nat.le_refl _
  | n + 1,b,al=>by
    unfold deadF
    have:=deadF_len CL i n (b + 1) (al || (fixAt CL b && truAt CL b))
    rw [List.length_append]
    split <;> simp <;> omega
end Lx
theorem Cns.kept58 {w w':World} {base b2:Nat} {v u:Value} {n:Nat} {ys:List Value} {cl:List Lx.Cn} (h:Cns w base v cl) (hu:w.ownsRow b2 58 2 u n ys) (hg:w.grownBy w' u.ownBlock):Cns w' base v cl:=by
  obtain ⟨ps,h1,h2,h3⟩:=h
  refine ⟨ps,h1,own_kept_row h2 hu hg (by decide),h3.kept hg ?_⟩
  intro k cs t e hk
  rcases hu.2 with ⟨rfl,-⟩ | ⟨g,cap,cur,rfl,hb,hh,-,-,-,-⟩
  · cases e
  · have e:some g=some k:=e
    rw [← Option.some.inj e,hh] at hk
    simp only [Option.some.injEq,Obj.cells.injEq] at hk
    rw [← hk.2.1];decide
theorem Cns.at {w:World} {base:Nat} {v:Value} {cl:List Lx.Cn} (h:Cns w base v cl) {i:Nat} {c:Lx.Cn} (hc:cl[i]? = some c):∃ g cp fv A C,v=.slice (some ⟨g,0,none⟩) cl.length cp∧g < w.heap.size∧w.cell? ⟨g,i * 2,none⟩=some fv∧w.cell? ⟨g,i * 2 + 1,none⟩=some (.slice A c.names.length C)∧FunAt w fv c∧∃ cur,w.heap[g]? = some (.cells cur 102 (0,0)):=by
  obtain ⟨ps,h1,h2,h3⟩:=h
  have hi:=(List.getElem?_eq_some_iff.1 hc).1
  obtain ⟨p,hp⟩:∃ p,ps[i]? = some p:=⟨_,List.getElem?_eq_getElem (by omega)⟩
  obtain ⟨hf,hn⟩:=h3 i p c hp hc
  obtain ⟨g,cp,rfl,-,-⟩:=h2.form (by omega)
  obtain ⟨A,C,e⟩:=own_slice hn
  obtain ⟨k0,k1⟩:=cnCells_at ps i p hp
  have hl:=cnCells_len ps
  refine ⟨g,cp,p.1,A,C,rfl,?_,by rw [h2.cellAt (i * 2) (by omega)];exact k0,by rw [h2.cellAt (i * 2 + 1) (by omega),← e];exact k1,hf,(own_heap h2).imp fun _ h=>h.1⟩
  obtain ⟨cur,hcur,-⟩:=own_heap h2
  exact blk_lt hcur
theorem own58_neT {w:World} {base n q:Nat} {t:TypeId} {v:Value} {xs:List Value} {cs:Array Value} (h:w.ownsRow base 58 2 v n xs) (hq:w.heap[q]? = some (.cells cs t (0,0))) (ht:t ≠ 58):v.ownBlock ≠ some q:=by
  rcases h.2 with ⟨rfl,-⟩ | ⟨g,cap,cur,rfl,hb,hh,-,-,-,-⟩
  · intro e;cases e
  · intro e
    have e:some g=some q:=e
    rw [← Option.some.inj e,hh] at hq
    simp only [Option.some.injEq,Obj.cells.injEq] at hq
    exact ht hq.2.1.symm
theorem own58_ne {w:World} {base n q:Nat} {v:Value} {xs:List Value} {cs:Array Value} (h:w.ownsRow base 58 2 v n xs) (hq:w.heap[q]? = some (.cells cs 9 (0,0))):v.ownBlock ≠ some q:=by
  rcases h.2 with ⟨rfl,-⟩ | ⟨g,cap,cur,rfl,hb,hh,-,-,-,-⟩
  · intro e;cases e
  · intro e
    have e:some g=some q:=e
    rw [← Option.some.inj e,hh] at hq
    simp at hq
set_option maxRecDepth 100000 in
set_option maxHeartbeats 8000000 in
theorem dead_ok (v:Value) (L:List Lx.Tok) (w:World) (hT:Tks w v L) (hlen:L.length ≤ 30000) (hs:∀ t ∈ L,t.t.size ≤ 20000) (hL:Laid w) (hE:(Lx.groups (L.map Lx.kindOf)).2.1=0) :
    Calls Tryz.prog 34 #[v] w fun e w' => ∃ rv,e=.returned (.tuple #[rv,.int .i64 0])∧w'.ownsRow w.heap.size 58 2 rv (Lx.deadL L).length (pairCells (Lx.deadL L))∧Below w.heap.size w w':=by
  have hgr:=condGroups_calls v L w hT (by omega) hs hL.maxLen hL.blanks (by have:=hL.size;omega)
  have hsm:Lx.Small (Lx.groups (L.map Lx.kindOf)).1:=Lx.groups_small 0 (L.map Lx.kindOf) (by rw [List.length_map];omega)
  have hin:=Lx.groups_in L
  have hsh:=(Lx.groups_form (L.map Lx.kindOf) hE).1
  rw [hE] at hgr
  unfold Lx.deadL
  obtain ⟨gs,hgs⟩:∃ gs,(Lx.groups (L.map Lx.kindOf)).1=gs:=⟨_,rfl⟩
  rw [hgs] at hgr hin hsm hsh ⊢
  obtain ⟨gn,hgn⟩:∃ gn,gs.length=gn:=⟨_,rfl⟩
  have hgl:=hsm.1
  rw [hgn] at hgl
  have HGN:=mkA hgn
  have HGR:=mkA hgr
  have HT:=mkA hT
  have HL:=mkA hL
  have HS:=mkA hs
  have HIN:=mkA hin
  have HSM:=mkA hsm
  have HSH:=mkA hsh
  obtain ⟨A,c,rfl,-⟩:=hT
  obtain ⟨n,hn⟩:∃ n,L.length=n:=⟨_,rfl⟩
  have HN:=mkA hn
  rw [hn] at HGR HT hlen ⊢
  clear hs hL hE hgr hgs hgn hn hin hsm hsh
  go_enter Tryz.func34,Tryz.ntmps34
  go_wp2_with (go_at_call 16;(refine HGR.out.mono ?_);rintro e w2 ⟨gv,rfl,hgrp,hb⟩;have HGRP:=mkA hgrp;have HB:=mkA hb;have hgv:∃ A c,gv=.slice A gn c:=(by obtain ⟨ls,e1,e2,e3⟩:=hgrp;exact own_slice (own_cast e2 HGN.out));obtain ⟨GA,GC,rfl⟩:=hgv;have hszz:=hb.size;clear hgrp hb)
  have HBW2:=HB
  obtain ⟨b2,hb2⟩:∃ b2,w2.heap.size=b2:=⟨_,rfl⟩
  have HB2:=mkA hb2
  have hsb:b2 ≤ w2.heap.size:=by omega
  have hwb2:w.heap.size ≤ b2:=by omega
  clear hb2 hszz
  go_loopg [7,25] gn (fun kq v7 v25 W => ∃ (i:Nat) (acc:List (Int × Int)),v25=.int .i64 i∧Aside0 (i ≤ gn∧kq=gn - i∧acc=Lx.deadGs L (gs.take i) 0∧acc.length ≤ i * 200000)∧Aside0 (W.ownsRow b2 58 2 v7 acc.length (pairCells acc))∧Aside0 (Below b2 w2 W)∧b2 ≤ W.heap.size)
  case atStart=>exact ⟨0,[],rfl,⟨by omega,rfl,rfl,by simp⟩,⟨own_nil _ _ _ _⟩,⟨Below.refl _ _⟩,hsb⟩
  case round =>
    obtain ⟨i,acc,rfl,HJ,HACC,HBK,hszk⟩:=hrel
    have hi:=HJ.out.1
    have hi0:(0:Int) ≤ (i:Int):=Int.natCast_nonneg _
    have hacl:=HJ.out.2.2.2
    by_cases hlt:i < gn
    · obtain ⟨g,hg⟩:∃ g,gs[i]? = some g:=⟨_,List.getElem?_eq_getElem (by have:=HGN.out;omega)⟩
      have hgm:=List.mem_of_getElem? hg
      obtain ⟨gb,c',gl,cl,hgv,a0,a1,a2,a3,hl0,hlc,hcm,hglb,hgbb,hat⟩:=HGRP.out.at i g hg
      simp only [Value.slice.injEq] at hgv
      obtain ⟨rfl,-,rfl⟩:=hgv
      have hgb2:gb < b2:=by have:=HB2.out;omega
      have hgl2:gl < b2:=by have:=HB2.out;omega
      have a0:=(HBK.out.cell (p:=⟨gb,_,none⟩) hgb2).trans a0
      have a1:=(HBK.out.cell (p:=⟨gb,_,none⟩) hgb2).trans a1
      have a2:=(HBK.out.cell (p:=⟨gb,_,none⟩) hgb2).trans a2
      have a3:=(HBK.out.cell (p:=⟨gb,_,none⟩) hgb2).trans a3
      have hgbw:gb < wr.heap.size:=by omega
      have hlsm:=(HSM.out.2 g hgm).1
      obtain ⟨m,hm⟩:∃ m,g.lines.length=m + 1:=⟨g.lines.length - 1,by omega⟩
      have hm5:m ≤ 100000:=by omega
      obtain ⟨d,hd,hd5⟩:=Lx.shut_br (HSH.out g hgm) hlsm
      obtain ⟨nbr,hnbr⟩:∃ nbr,d + 1=nbr:=⟨_,rfl⟩
      have hgbr:g.br=(nbr:Int):=by omega
      have hgx:Lx.deadGs L (gs.take (i + 1)) 0=acc ++ Lx.deadG L g i:=by
        rw [take_snoc gs i g hg,Lx.deadGs_snoc,← HJ.out.2.2.1,List.length_take,Nat.min_eq_left (by have:=HGN.out;omega),Nat.zero_add]
      have hB12:Below w.heap.size w wr:=HBW2.out.trans (HBK.out.mono (by omega))
      have hba:Below wr.heap.size wr (wr.alloc (.cells #[.slice (some ⟨gl,0,none⟩) (m + 1) cl,.int .i64 nbr,.int .i64 g.par,.int .i64 g.bch] 41)):=(Below.refl _ _).alloc (Nat.le_refl _) _
      have hbwa:=hB12.trans (hba.mono hB12.size)
      have hIa:Ints (wr.alloc (.cells #[.slice (some ⟨gl,0,none⟩) (m + 1) cl,.int .i64 nbr,.int .i64 g.par,.int .i64 g.bch] 41)) (.slice (some ⟨gl,0,none⟩) (m + 1) cl) g.lines:=by
        refine ⟨some ⟨gl,0,none⟩,cl,by rw [hm],by omega,hcm,.inr ⟨gl,0,rfl,fun k t ht => ?_,by simp;omega⟩⟩
        exact (hba.cell (p:=⟨gl,_,none⟩) (by show gl < _;omega)).trans ((HBK.out.cell (p:=⟨gl,_,none⟩) hgl2).trans (hat k t ht))
      have hLa:=HL.out.below hbwa
      have hcd:=conds_calls _ _ _ L g.lines nbr g.par g.bch m (HT.out.below hbwa) hIa hm hm5 (fun x hx=>by have:=HIN.out g hgm x hx;rw [HN.out] at this ⊢;exact this) (by rw [HN.out];omega) HS.out hLa.maxLen hLa.blanks (by have:=hLa.size;omega)
        (fun x hx t ht he=>by obtain ⟨w0,r,p,e1,e2,e3,-⟩:=Lx.expr_words t he;exact ⟨w0,r,p,e1,e2,e3⟩)
      obtain ⟨CL,hCL⟩:∃ CL,Lx.condsL L (g.lines.take m)=CL:=⟨_,rfl⟩
      have hdg:Lx.deadG L g i=Lx.deadF CL i nbr 0 false:=by
        unfold Lx.deadG
        rw [hm,Nat.add_sub_cancel,hCL,hgbr,Int.toNat_natCast]
      rw [hCL] at hcd
      obtain ⟨nc,hnc⟩:∃ nc,CL.length=nc:=⟨_,rfl⟩
      have hnc5:nc ≤ 100000:=by rw [← hnc,← hCL];have:=Lx.condsL_len L (g.lines.take m);rw [List.length_take] at this;omega
      obtain ⟨FULL,hfull⟩:∃ FULL,acc ++ Lx.deadF CL i nbr 0 false=FULL:=⟨_,rfl⟩
      have HFULL:=mkA hfull
      have HGX:=mkA (show Lx.deadGs L (gs.take (i + 1)) 0=FULL by rw [hgx,hdg,hfull])
      have HNC:=mkA hnc
      have HCD:=mkA hcd
      have HBA:=mkA hba
      have HB12:=mkA hB12
      have HSA:Aside0 (wr.heap.size < (wr.alloc (.cells #[.slice (some ⟨gl,0,none⟩) (m + 1) cl,.int .i64 nbr,.int .i64 g.par,.int .i64 g.bch] 41)).heap.size):=⟨by simp⟩
      have hnb5:nbr ≤ 100001:=by omega
      rw [hm] at a0
      rw [hgbr] at a1
      clear hg hgm hat hcd hba hbwa hIa hLa hCL hnc hB12 hglb hgbb hl0 hlc hcm hm hlsm hd hnbr hgbr hgx hdg hfull
      go_wp2_with (first | (go_at_call 53;(refine (HCD.out).mono ?_);rintro e w3 ⟨v3,rfl,hcn,hb⟩;have hv3:∃ A c,v3=.slice A nc c:=(by obtain ⟨ps,e1,e2,e3⟩:=hcn;exact own_slice (own_cast e2 HNC.out));obtain ⟨A3,c3,rfl⟩:=hv3;have HCN3:=mkA hcn;have q1:w3.cell? ⟨wr.heap.size,1,none⟩=some (.int .i64 nbr):=(hb.cell (p:=⟨wr.heap.size,1,none⟩) HSA.out).trans (by rw [blk_cell (blk_new wr _)];rfl);have hwl3:wr.heap.size < w3.heap.size:=Nat.lt_of_lt_of_le HSA.out hb.size;have hB3:=(HBA.out.trans (hb.mono (Nat.le_of_lt HSA.out)));have HB3:=mkA hB3;clear hcn hb hB3))
      obtain ⟨wo,rfl⟩:∃ wo:World,wo=wr:=⟨_,rfl⟩
      go_loopg [7,11,35] nbr (fun kq v7 v11 v35 W => ∃ (b:Nat) (al:Bool) (acc2:List (Int × Int)),v11=.bool al∧v35=.int .i64 b∧Aside0 (b ≤ nbr∧kq=nbr - b∧acc2 ++ Lx.deadF CL i (nbr - b) b al=FULL∧acc2.length ≤ i * 200000 + b)∧Aside0 (W.ownsRow b2 58 2 v7 acc2.length (pairCells acc2))∧Aside0 (Below b2 w2 W)∧Aside0 (Cns W (wo.alloc (.cells #[.slice (some ⟨gl,0,none⟩) (m + 1) cl,.int .i64 nbr,.int .i64 g.par,.int .i64 g.bch] 41)).heap.size (.slice A3 nc c3) CL)∧b2 ≤ W.heap.size)
      case atStart=>exact ⟨0,false,acc,rfl,rfl,⟨by omega,rfl,by rw [Nat.sub_zero];exact HFULL.out,Nat.le_trans hacl (Nat.le_add_right _ _)⟩,⟨own_kept_no HACC.out (grown_below (World.grownBy.refl _ none) HB3.out)⟩,⟨HBK.out.trans (HB3.out.mono hszk)⟩,HCN3,by have:=HB3.out.size;omega⟩
      case round =>
        obtain ⟨b,al,acc2,rfl,rfl,HK,HACC20,HBK2,HCN2,hszr⟩:=hrel
        have hb:=HK.out.1
        have hb0:(0:Int) ≤ (b:Int):=Int.natCast_nonneg _
        obtain ⟨al2,hal2⟩:∃ al2,acc2.length=al2:=⟨_,rfl⟩
        have HAL2:=mkA hal2
        have HACC2:=mkA (own_cast HACC20.out hal2)
        have hall:al2 ≤ 50000000000:=by have:=HK.out.2.2.2;omega
        have HBR:=mkA (HBW2.out.trans (HBK2.out.mono (by omega)))
        clear hal2
        by_cases hbn:b < nbr
        · have hun:acc2 ++ ((if (al || (Lx.fixAt CL b && !(Lx.truAt CL b)))=true then [((i:Int),(b:Int))] else []) ++ Lx.deadF CL i (nbr - (b + 1)) (b + 1) (al || (Lx.fixAt CL b && Lx.truAt CL b)))=FULL:=by
            rw [← HK.out.2.2.1,show nbr - b=(nbr - (b + 1)) + 1 by omega]
            rfl
          by_cases hbc:b < nc
          · obtain ⟨cd,hcd⟩:∃ cd,CL[b]? = some cd:=⟨_,List.getElem?_eq_getElem (by have:=HNC.out;omega)⟩
            obtain ⟨g3,cp3,fv,NA,NC,e',hg3,c0,c1,hF,cur3,hg3b⟩:=HCN2.out.at hcd
            have HG3:=mkA hg3b
            simp only [Value.slice.injEq] at e'
            obtain ⟨rfl,-,rfl⟩:=e'
            have hfix:Lx.fixAt CL b=cd.names.isEmpty:=by unfold Lx.fixAt;rw [hcd]
            have htru:Lx.truAt CL b=cd.val []:=by unfold Lx.truAt;rw [hcd]
            obtain ⟨nn,hnn⟩:∃ nn,cd.names.length=nn:=⟨_,rfl⟩
            rw [hnn] at c1
            have hem:cd.names.isEmpty=((nn:Int) == 0):=by
              rw [← hnn]
              cases cd.names with
              | nil=>rfl
              | cons a l =>
                have:(((a :: l).length:Int) == 0)=false:=beq_eq_false_iff_ne.mpr (by simp;omega)
                rw [this];rfl
            rw [hfix,htru,hem] at hun
            clear hcd hfix htru hnn hem hg3b
            cases hz:((nn:Int) == 0)
            · rw [hz] at hun
              simp only [Bool.false_and,Bool.or_false] at hun
              have HUN:=mkA hun
              clear hun hF
              cases al
              · go_wp2_with fail
                go_roundg (nbr - (b + 1))
                case measure=>have:=HK.out;omega
                case rel =>
                  refine ⟨b + 1,false,acc2,by first | rfl | go_num,by go_num,⟨by omega,rfl,?_,by have:=HK.out.2.2.2;omega⟩,⟨by rw [HAL2.out];exact HACC2.out⟩,⟨HBK2.out⟩,⟨HCN2.out⟩,by omega⟩
                  rw [← HUN.out];rfl
              · go_wp2_with (first | (at_builtin;refine print_append_cells (w0:=w2) (W:=wr) b2 rfl (.tmp 64) (.tmp 68) 55 58 (.agg #[.int .i64 0,.int .i64 0]) 2 16 rfl Tryz.underlying55 info58 rfl (by decide) (by decide) u7 al2 (pairCells acc2) [.int .i64 i,.int .i64 b] (by rfl) (by simp [Act.eval]) rfl (by simp [Value.oneCell']) HACC2.out HBK2.out (by omega) (by omega) ?_;intro v6 w6 hv6 hb6 hg6 hat6;have HV6:=mkA hv6;have HB6:=mkA hb6;have HC6:=mkA (Cns.kept58 HCN2.out HACC2.out hg6);have hsz6:=hg6.size; clear hv6 hb6 hg6 hat6))
                go_roundg (nbr - (b + 1))
                case measure=>have:=HK.out;omega
                case rel =>
                  refine ⟨b + 1,true,acc2 ++ [((i:Int),(b:Int))],by first | rfl | go_num,by go_num,⟨by omega,rfl,?_,by rw [List.length_append,List.length_singleton];have:=HK.out.2.2.2;omega⟩,⟨?_⟩,⟨HB6.out⟩,⟨HC6.out⟩,by omega⟩
                  · rw [← HUN.out,List.append_assoc];rfl
                  · have h9:=HV6.out
                    unfold pairCells at h9 ⊢
                    rw [List.length_append,List.length_singleton,HAL2.out,List.flatMap_append]
                    exact h9
            · rw [hz] at hun
              simp only [Bool.true_and] at hun
              obtain ⟨vv,hvv⟩:∃ vv,cd.val []=vv:=⟨_,rfl⟩
              rw [hvv] at hun
              have hD0:∀ W:World,Dfs W (.slice none 0 0) []:=fun W=>⟨none,0,rfl,Nat.le_refl _,Nat.zero_le _,by simp,(fun d hd=>by cases hd),.inl rfl⟩
              cases cd with
              | expr rest l =>
                obtain ⟨bq,rfl,hq,hqs⟩:=hF
                have hak:∀ W:World,(∀ (q:Nat) (cs:Array Value),wr.heap[q]? = some (.cells cs 9 (0,0)) → W.heap[q]? = some (.cells cs 9 (0,0))) → Below w.heap.size w W → Calls Tryz.prog 88 #[.slice none 0 0,.pointer (some ⟨bq,0,none⟩)] W fun e w'=>e=.returned (.bool vv)∧Below W.heap.size W w':=by
                  intro W hk hb
                  have h:=expr_calls W _ [] bq rest hqs (HL.out.below hb) (hD0 W) (hk _ _ hq)
                  rw [show ((Lx.exprV [] rest).1 != 0)=vv from hvv] at h
                  exact h
                have HAK:=mkA hak
                clear hak hq hvv hD0
                have HA1:=mkA (HAK.out wr (fun q o hq=>hq) HBR.out)
                cases vv
                · have HUN:=mkA (show (acc2 ++ ((if (al || true)=true then [((i:Int),(b:Int))] else []) ++ Lx.deadF CL i (nbr - (b + 1)) (b + 1) (al || false)))=FULL from hun)
                  cases al
                  · clear hun
                    go_wp2_with (first | (go_at_call 88;(with_reducible refine (HA1.out).mono ?_);rintro e w5 ⟨rfl,hb5⟩;have HO5:=mkA (own_kept_no HACC2.out (grown_below (World.grownBy.refl _ none) hb5));have HBL5:=mkA (HBK2.out.trans (hb5.mono hszr));have HC5:=mkA (HCN2.out.below hb5);have hsz5:b2 ≤ w5.heap.size:=Nat.le_trans hszr hb5.size;have HA2:=mkA (HAK.out w5 (fun q o hq=>(hb5.block q (blk_lt hq)).trans hq) (HBR.out.trans (hb5.mono HBR.out.size)));have HW5:=mkA hb5;have d0:=(hb5.cell (p:=⟨g3,_,none⟩) hg3).trans c0;have hg35:g3 < w5.heap.size:=Nat.lt_of_lt_of_le hg3 hb5.size;clear hb5) | (at_builtin;refine print_append_cells (w0:=w2) (W:=w5) b2 rfl (.tmp 64) (.tmp 68) 55 58 (.agg #[.int .i64 0,.int .i64 0]) 2 16 rfl Tryz.underlying55 info58 rfl (by decide) (by decide) u7 al2 (pairCells acc2) [.int .i64 i,.int .i64 b] (by rfl) (by simp [Act.eval]) rfl (by simp [Value.oneCell']) HO5.out HBL5.out (by omega) (by omega) ?_;intro v6 w6 hv6 hb6 hg6 hat6;have HV6:=mkA hv6;have HB6:=mkA hb6;have HC6:=mkA (Cns.kept58 HC5.out HO5.out hg6);have hsz6:=hg6.size;have HA3:=mkA (HAK.out w6 (fun q o hq=>(hg6.block q (by have:=blk_lt hq;have:=HW5.out.size;omega) (fun e=>own58_ne HO5.out ((HW5.out.block q (blk_lt hq)).trans hq) e.symm)).trans ((HW5.out.block q (blk_lt hq)).trans hq)) (HBW2.out.trans (hb6.mono (by omega))));have f0:=hg6.cell d0 (fun e=>own58_neT HO5.out ((HW5.out.block g3 (blk_lt HG3.out)).trans HG3.out) (by decide) e.symm);have hg36:g3 < w6.heap.size:=(by have:=HW5.out.size;omega);clear hv6 hb6 hg6 hat6) | (go_at_call 88;(with_reducible refine (HA3.out).mono ?_);rintro e w7 ⟨rfl,hb7⟩;have HO7:=mkA (own_kept_no HV6.out (grown_below (World.grownBy.refl _ none) hb7));have HBL7:=mkA (HB6.out.trans (hb7.mono (by omega)));have HC7:=mkA (HC6.out.below hb7);have hsz7:=hb7.size;clear hb7))
                    go_roundg (nbr - (b + 1))
                    case measure=>have:=HK.out;omega
                    case rel =>
                      refine ⟨b + 1,false,acc2 ++ [((i:Int),(b:Int))],by first | rfl | go_num,by go_num,⟨by omega,rfl,?_,by rw [List.length_append,List.length_singleton];have:=HK.out.2.2.2;omega⟩,⟨?_⟩,⟨HBL7.out⟩,⟨HC7.out⟩,by omega⟩
                      · rw [← HUN.out,List.append_assoc];rfl
                      · have h9:=HO7.out
                        unfold pairCells at h9 ⊢
                        rw [List.length_append,List.length_singleton,HAL2.out,List.flatMap_append]
                        exact h9
                  · clear hun
                    go_wp2_with (first | (at_builtin;refine print_append_cells (w0:=w2) (W:=wr) b2 rfl (.tmp 64) (.tmp 68) 55 58 (.agg #[.int .i64 0,.int .i64 0]) 2 16 rfl Tryz.underlying55 info58 rfl (by decide) (by decide) u7 al2 (pairCells acc2) [.int .i64 i,.int .i64 b] (by rfl) (by simp [Act.eval]) rfl (by simp [Value.oneCell']) HACC2.out HBK2.out (by omega) (by omega) ?_;intro v6 w6 hv6 hb6 hg6 hat6;have HV6:=mkA hv6;have HB6:=mkA hb6;have HC6:=mkA (Cns.kept58 HCN2.out HACC2.out hg6);have hsz6:=hg6.size; clear hv6 hb6 hg6 hat6))
                    go_roundg (nbr - (b + 1))
                    case measure=>have:=HK.out;omega
                    case rel =>
                      refine ⟨b + 1,true,acc2 ++ [((i:Int),(b:Int))],by first | rfl | go_num,by go_num,⟨by omega,rfl,?_,by rw [List.length_append,List.length_singleton];have:=HK.out.2.2.2;omega⟩,⟨?_⟩,⟨HB6.out⟩,⟨HC6.out⟩,by omega⟩
                      · rw [← HUN.out,List.append_assoc];rfl
                      · have h9:=HV6.out
                        unfold pairCells at h9 ⊢
                        rw [List.length_append,List.length_singleton,HAL2.out,List.flatMap_append]
                        exact h9
                · have HUN:=mkA (show (acc2 ++ ((if (al || false)=true then [((i:Int),(b:Int))] else []) ++ Lx.deadF CL i (nbr - (b + 1)) (b + 1) (al || true)))=FULL from hun)
                  cases al
                  · clear hun
                    go_wp2_with (first | (go_at_call 88;(with_reducible refine (HA1.out).mono ?_);rintro e w5 ⟨rfl,hb5⟩;have HO5:=mkA (own_kept_no HACC2.out (grown_below (World.grownBy.refl _ none) hb5));have HBL5:=mkA (HBK2.out.trans (hb5.mono hszr));have HC5:=mkA (HCN2.out.below hb5);have hsz5:b2 ≤ w5.heap.size:=Nat.le_trans hszr hb5.size;have HA2:=mkA (HAK.out w5 (fun q o hq=>(hb5.block q (blk_lt hq)).trans hq) (HBR.out.trans (hb5.mono HBR.out.size)));have HW5:=mkA hb5;have d0:=(hb5.cell (p:=⟨g3,_,none⟩) hg3).trans c0;have hg35:g3 < w5.heap.size:=Nat.lt_of_lt_of_le hg3 hb5.size;clear hb5) | (go_at_call 88;(with_reducible refine (HA2.out).mono ?_);rintro e w7 ⟨rfl,hb7⟩;have HO7:=mkA (own_kept_no HO5.out (grown_below (World.grownBy.refl _ none) hb7));have HBL7:=mkA (HBL5.out.trans (hb7.mono hsz5));have HC7:=mkA (HC5.out.below hb7);have hsz7:=hb7.size;clear hb7))
                    go_roundg (nbr - (b + 1))
                    case measure=>have:=HK.out;omega
                    case rel =>
                      refine ⟨b + 1,true,acc2,by first | rfl | go_num,by go_num,⟨by omega,rfl,?_,by have:=HK.out.2.2.2;omega⟩,⟨by rw [HAL2.out];exact HO7.out⟩,⟨HBL7.out⟩,⟨HC7.out⟩,by omega⟩
                      rw [← HUN.out];rfl
                  · clear hun
                    go_wp2_with (first | (at_builtin;refine print_append_cells (w0:=w2) (W:=wr) b2 rfl (.tmp 64) (.tmp 68) 55 58 (.agg #[.int .i64 0,.int .i64 0]) 2 16 rfl Tryz.underlying55 info58 rfl (by decide) (by decide) u7 al2 (pairCells acc2) [.int .i64 i,.int .i64 b] (by rfl) (by simp [Act.eval]) rfl (by simp [Value.oneCell']) HACC2.out HBK2.out (by omega) (by omega) ?_;intro v6 w6 hv6 hb6 hg6 hat6;have HV6:=mkA hv6;have HB6:=mkA hb6;have HC6:=mkA (Cns.kept58 HCN2.out HACC2.out hg6);have hsz6:=hg6.size; clear hv6 hb6 hg6 hat6))
                    go_roundg (nbr - (b + 1))
                    case measure=>have:=HK.out;omega
                    case rel =>
                      refine ⟨b + 1,true,acc2 ++ [((i:Int),(b:Int))],by first | rfl | go_num,by go_num,⟨by omega,rfl,?_,by rw [List.length_append,List.length_singleton];have:=HK.out.2.2.2;omega⟩,⟨?_⟩,⟨HB6.out⟩,⟨HC6.out⟩,by omega⟩
                      · rw [← HUN.out,List.append_assoc];rfl
                      · have h9:=HV6.out
                        unfold pairCells at h9 ⊢
                        rw [List.length_append,List.length_singleton,HAL2.out,List.flatMap_append]
                        exact h9
              | dfn name kind l =>
                obtain ⟨bq,bk,rfl,hq,hqk⟩:=hF
                have hak:∀ W:World,(∀ (q:Nat) (cs:Array Value),wr.heap[q]? = some (.cells cs 9 (0,0)) → W.heap[q]? = some (.cells cs 9 (0,0))) → Below w.heap.size w W → Calls Tryz.prog 90 #[.slice none 0 0,.pointer (some ⟨bq,0,none⟩),.pointer (some ⟨bk,0,none⟩)] W fun e w'=>e=.returned (.bool vv)∧Below W.heap.size W w':=by
                  intro W hk hb
                  have h:=dfn_calls W _ [] bq bk name kind (HL.out.below hb) (hD0 W) (hk _ _ hq) (hk _ _ hqk)
                  rw [show (((Lx.valOf [] name).2 && !(name.toList.isEmpty)) == (kind.toList == [105,102,100,101,102]))=vv from hvv] at h
                  exact h
                have HAK:=mkA hak
                clear hak hq hqk hvv hD0
                have HA1:=mkA (HAK.out wr (fun q o hq=>hq) HBR.out)
                cases vv
                · have HUN:=mkA (show (acc2 ++ ((if (al || true)=true then [((i:Int),(b:Int))] else []) ++ Lx.deadF CL i (nbr - (b + 1)) (b + 1) (al || false)))=FULL from hun)
                  cases al
                  · clear hun
                    go_wp2_with (first | (go_at_call 90;(with_reducible refine (HA1.out).mono ?_);rintro e w5 ⟨rfl,hb5⟩;have HO5:=mkA (own_kept_no HACC2.out (grown_below (World.grownBy.refl _ none) hb5));have HBL5:=mkA (HBK2.out.trans (hb5.mono hszr));have HC5:=mkA (HCN2.out.below hb5);have hsz5:b2 ≤ w5.heap.size:=Nat.le_trans hszr hb5.size;have HA2:=mkA (HAK.out w5 (fun q o hq=>(hb5.block q (blk_lt hq)).trans hq) (HBR.out.trans (hb5.mono HBR.out.size)));have HW5:=mkA hb5;have d0:=(hb5.cell (p:=⟨g3,_,none⟩) hg3).trans c0;have hg35:g3 < w5.heap.size:=Nat.lt_of_lt_of_le hg3 hb5.size;clear hb5) | (at_builtin;refine print_append_cells (w0:=w2) (W:=w5) b2 rfl (.tmp 64) (.tmp 68) 55 58 (.agg #[.int .i64 0,.int .i64 0]) 2 16 rfl Tryz.underlying55 info58 rfl (by decide) (by decide) u7 al2 (pairCells acc2) [.int .i64 i,.int .i64 b] (by rfl) (by simp [Act.eval]) rfl (by simp [Value.oneCell']) HO5.out HBL5.out (by omega) (by omega) ?_;intro v6 w6 hv6 hb6 hg6 hat6;have HV6:=mkA hv6;have HB6:=mkA hb6;have HC6:=mkA (Cns.kept58 HC5.out HO5.out hg6);have hsz6:=hg6.size;have HA3:=mkA (HAK.out w6 (fun q o hq=>(hg6.block q (by have:=blk_lt hq;have:=HW5.out.size;omega) (fun e=>own58_ne HO5.out ((HW5.out.block q (blk_lt hq)).trans hq) e.symm)).trans ((HW5.out.block q (blk_lt hq)).trans hq)) (HBW2.out.trans (hb6.mono (by omega))));have f0:=hg6.cell d0 (fun e=>own58_neT HO5.out ((HW5.out.block g3 (blk_lt HG3.out)).trans HG3.out) (by decide) e.symm);have hg36:g3 < w6.heap.size:=(by have:=HW5.out.size;omega);clear hv6 hb6 hg6 hat6) | (go_at_call 90;(with_reducible refine (HA3.out).mono ?_);rintro e w7 ⟨rfl,hb7⟩;have HO7:=mkA (own_kept_no HV6.out (grown_below (World.grownBy.refl _ none) hb7));have HBL7:=mkA (HB6.out.trans (hb7.mono (by omega)));have HC7:=mkA (HC6.out.below hb7);have hsz7:=hb7.size;clear hb7))
                    go_roundg (nbr - (b + 1))
                    case measure=>have:=HK.out;omega
                    case rel =>
                      refine ⟨b + 1,false,acc2 ++ [((i:Int),(b:Int))],by first | rfl | go_num,by go_num,⟨by omega,rfl,?_,by rw [List.length_append,List.length_singleton];have:=HK.out.2.2.2;omega⟩,⟨?_⟩,⟨HBL7.out⟩,⟨HC7.out⟩,by omega⟩
                      · rw [← HUN.out,List.append_assoc];rfl
                      · have h9:=HO7.out
                        unfold pairCells at h9 ⊢
                        rw [List.length_append,List.length_singleton,HAL2.out,List.flatMap_append]
                        exact h9
                  · clear hun
                    go_wp2_with (first | (at_builtin;refine print_append_cells (w0:=w2) (W:=wr) b2 rfl (.tmp 64) (.tmp 68) 55 58 (.agg #[.int .i64 0,.int .i64 0]) 2 16 rfl Tryz.underlying55 info58 rfl (by decide) (by decide) u7 al2 (pairCells acc2) [.int .i64 i,.int .i64 b] (by rfl) (by simp [Act.eval]) rfl (by simp [Value.oneCell']) HACC2.out HBK2.out (by omega) (by omega) ?_;intro v6 w6 hv6 hb6 hg6 hat6;have HV6:=mkA hv6;have HB6:=mkA hb6;have HC6:=mkA (Cns.kept58 HCN2.out HACC2.out hg6);have hsz6:=hg6.size; clear hv6 hb6 hg6 hat6))
                    go_roundg (nbr - (b + 1))
                    case measure=>have:=HK.out;omega
                    case rel =>
                      refine ⟨b + 1,true,acc2 ++ [((i:Int),(b:Int))],by first | rfl | go_num,by go_num,⟨by omega,rfl,?_,by rw [List.length_append,List.length_singleton];have:=HK.out.2.2.2;omega⟩,⟨?_⟩,⟨HB6.out⟩,⟨HC6.out⟩,by omega⟩
                      · rw [← HUN.out,List.append_assoc];rfl
                      · have h9:=HV6.out
                        unfold pairCells at h9 ⊢
                        rw [List.length_append,List.length_singleton,HAL2.out,List.flatMap_append]
                        exact h9
                · have HUN:=mkA (show (acc2 ++ ((if (al || false)=true then [((i:Int),(b:Int))] else []) ++ Lx.deadF CL i (nbr - (b + 1)) (b + 1) (al || true)))=FULL from hun)
                  cases al
                  · clear hun
                    go_wp2_with (first | (go_at_call 90;(with_reducible refine (HA1.out).mono ?_);rintro e w5 ⟨rfl,hb5⟩;have HO5:=mkA (own_kept_no HACC2.out (grown_below (World.grownBy.refl _ none) hb5));have HBL5:=mkA (HBK2.out.trans (hb5.mono hszr));have HC5:=mkA (HCN2.out.below hb5);have hsz5:b2 ≤ w5.heap.size:=Nat.le_trans hszr hb5.size;have HA2:=mkA (HAK.out w5 (fun q o hq=>(hb5.block q (blk_lt hq)).trans hq) (HBR.out.trans (hb5.mono HBR.out.size)));have HW5:=mkA hb5;have d0:=(hb5.cell (p:=⟨g3,_,none⟩) hg3).trans c0;have hg35:g3 < w5.heap.size:=Nat.lt_of_lt_of_le hg3 hb5.size;clear hb5) | (go_at_call 90;(with_reducible refine (HA2.out).mono ?_);rintro e w7 ⟨rfl,hb7⟩;have HO7:=mkA (own_kept_no HO5.out (grown_below (World.grownBy.refl _ none) hb7));have HBL7:=mkA (HBL5.out.trans (hb7.mono hsz5));have HC7:=mkA (HC5.out.below hb7);have hsz7:=hb7.size;clear hb7))
                    go_roundg (nbr - (b + 1))
                    case measure=>have:=HK.out;omega
                    case rel =>
                      refine ⟨b + 1,true,acc2,by first | rfl | go_num,by go_num,⟨by omega,rfl,?_,by have:=HK.out.2.2.2;omega⟩,⟨by rw [HAL2.out];exact HO7.out⟩,⟨HBL7.out⟩,⟨HC7.out⟩,by omega⟩
                      rw [← HUN.out];rfl
                  · clear hun
                    go_wp2_with (first | (at_builtin;refine print_append_cells (w0:=w2) (W:=wr) b2 rfl (.tmp 64) (.tmp 68) 55 58 (.agg #[.int .i64 0,.int .i64 0]) 2 16 rfl Tryz.underlying55 info58 rfl (by decide) (by decide) u7 al2 (pairCells acc2) [.int .i64 i,.int .i64 b] (by rfl) (by simp [Act.eval]) rfl (by simp [Value.oneCell']) HACC2.out HBK2.out (by omega) (by omega) ?_;intro v6 w6 hv6 hb6 hg6 hat6;have HV6:=mkA hv6;have HB6:=mkA hb6;have HC6:=mkA (Cns.kept58 HCN2.out HACC2.out hg6);have hsz6:=hg6.size; clear hv6 hb6 hg6 hat6))
                    go_roundg (nbr - (b + 1))
                    case measure=>have:=HK.out;omega
                    case rel =>
                      refine ⟨b + 1,true,acc2 ++ [((i:Int),(b:Int))],by first | rfl | go_num,by go_num,⟨by omega,rfl,?_,by rw [List.length_append,List.length_singleton];have:=HK.out.2.2.2;omega⟩,⟨?_⟩,⟨HB6.out⟩,⟨HC6.out⟩,by omega⟩
                      · rw [← HUN.out,List.append_assoc];rfl
                      · have h9:=HV6.out
                        unfold pairCells at h9 ⊢
                        rw [List.length_append,List.length_singleton,HAL2.out,List.flatMap_append]
                        exact h9
          · have hfix:Lx.fixAt CL b=false:=by unfold Lx.fixAt;rw [List.getElem?_eq_none (by have:=HNC.out;omega)]
            rw [hfix] at hun
            simp only [Bool.false_and,Bool.or_false] at hun
            have HUN:=mkA hun
            clear hun hfix
            cases al
            · go_wp2_with fail
              go_roundg (nbr - (b + 1))
              case measure=>have:=HK.out;omega
              case rel =>
                refine ⟨b + 1,false,acc2,by first | rfl | go_num,by go_num,⟨by omega,rfl,?_,by have:=HK.out.2.2.2;omega⟩,⟨by rw [HAL2.out];exact HACC2.out⟩,⟨HBK2.out⟩,⟨HCN2.out⟩,by omega⟩
                rw [← HUN.out];rfl
            · go_wp2_with (first | (at_builtin;refine print_append_cells (w0:=w2) (W:=wr) b2 rfl (.tmp 64) (.tmp 68) 55 58 (.agg #[.int .i64 0,.int .i64 0]) 2 16 rfl Tryz.underlying55 info58 rfl (by decide) (by decide) u7 al2 (pairCells acc2) [.int .i64 i,.int .i64 b] (by rfl) (by simp [Act.eval]) rfl (by simp [Value.oneCell']) HACC2.out HBK2.out (by omega) (by omega) ?_;intro v6 w6 hv6 hb6 hg6 hat6;have HV6:=mkA hv6;have HB6:=mkA hb6;have HC6:=mkA (Cns.kept58 HCN2.out HACC2.out hg6);have hsz6:=hg6.size; clear hv6 hb6 hg6 hat6))
              go_roundg (nbr - (b + 1))
              case measure=>have:=HK.out;omega
              case rel =>
                refine ⟨b + 1,true,acc2 ++ [((i:Int),(b:Int))],by first | rfl | go_num,by go_num,⟨by omega,rfl,?_,by rw [List.length_append,List.length_singleton];have:=HK.out.2.2.2;omega⟩,⟨?_⟩,⟨HB6.out⟩,⟨HC6.out⟩,by omega⟩
                · rw [← HUN.out,List.append_assoc];rfl
                · have h9:=HV6.out
                  unfold pairCells at h9 ⊢
                  rw [List.length_append,List.length_singleton,HAL2.out,List.flatMap_append]
                  exact h9
        · obtain rfl:b=nbr:=by omega
          have hend:=HK.out.2.2.1
          rw [Nat.sub_self] at hend
          have HEND:=mkA (show acc2=FULL by rw [← hend];exact (List.append_nil _).symm)
          clear hend
          go_wp2_with fail
          go_roundg (gn - (i + 1))
          case measure=>have:=HJ.out;omega
          case rel=>exact ⟨i + 1,acc2,by go_num,⟨by omega,rfl,by rw [HEND.out,HGX.out],by have:=HK.out.2.2.2;omega⟩,HACC20,HBK2,hszr⟩
    · obtain rfl:i=gn:=by omega
      go_wp2_with fail
      go_ret2
      have e1:acc=Lx.deadGs L gs 0:=by rw [HJ.out.2.2.1,List.take_of_length_le (by have:=HGN.out;omega)]
      refine ⟨_,rfl,?_,HBW2.out.trans (HBK.out.mono (by omega))⟩
      rw [← e1]
      exact own_lower HACC.out hwb2
set_option maxRecDepth 100000 in
theorem places_err (v:Value) (L:List Lx.Tok) (w:World) (hT:Tks w v L) (hlen:L.length ≤ 100000) (hs:∀ t ∈ L,t.t.size ≤ 20000) (hm:MaxLen w) (hbl:Blanks w) (h5:5 ≤ w.heap.size)
    (E:Int) (hE:(Lx.groups (L.map Lx.kindOf)).2.1=E) (hne:(E != 0)=true) :
    Calls Tryz.prog 46 #[v] w fun e w'=>e=.returned (.tuple #[.slice none 0 0,.slice none 0 0,.int .i64 E])∧Below w.heap.size w w':=by
  have hg:=condGroups_calls v L w hT hlen hs hm hbl h5
  rw [hE] at hg
  have HG:=mkA hg
  clear hg hE hT hs hm hbl h5
  go_enter Tryz.func46,Tryz.ntmps46
  go_wp2_with (first | (go_at_call 16;(refine HG.out.mono ?_);rintro e w1 ⟨gv,rfl,hgrp,hb⟩;have HB:=mkA hb;clear hgrp hb))
  go_ret3
  exact ⟨rfl,HB.out⟩
end Go.Proofs.YtjnafjgonoficaaGreatDoor
