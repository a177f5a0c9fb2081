/-
  Small laws of memory and of slices. Conditions: none.
  The plain functions of the lexer: what lex.Scan and its reference compute of a text, by places. No program in sight. Conditions: none.
  What the lexer's small functions come to: bytes, names, numbers, quoted texts. Conditions: the scanner's cells lie in a block, and the text is short.
  Between the library's words on lists of bytes and the lexer's plain functions by places. No program in sight. Conditions: none.
  What the reference lexer's small functions come to: letters, digits, the byte at a place, what begins at a place, comments. Conditions: the text is short.
  What the reference lexer's pieces, numbers, lines and quoted texts come to. Conditions: the text is short.
-/
import Derived.Below
import Derived.Deep.Draws
import Derived.Deep.AppendLies
import Derived.Maps.AppendAt
import Derived.OwnWalk
import Derived.Laws.BytesArg
import Derived.Laws.MakeOwn
import Derived.Laws.OwnMore
import Derived.Deep.OwnRows
import Derived.Tactics
import Derived.Lib.ConvBytes
import Derived.Laws.Slices
import Derived.WalkKit
import Derived.KernelRfl
import Derived.RowKit3
import Derived.Deep.LoopGhost
import Derived.Deep.QuietTactic
import Derived.BigQuiet
import Derived.WideLaws
import Derived.Deep.DeepCutAuto
import Derived.Deep.CutBlock
import Derived.Deep.RegionHeld3
import Derived.Laws.Rows
import Derived.Lib.AppendStr
import Derived.ArgAppend
import Derived.Laws.IdiomCopy
import Derived.RowKit
import Derived.WalkSpells
import Derived.Outline
import Derived.Lib.IndexBytes
import Derived.Lib.IndexMore
import Derived.Lib.IndexLaws
import Derived.Test.YtjnafjgonoficaaGreatDoorProg
set_option linter.unusedVariables false
set_option linter.unusedSimpArgs false
namespace Go.Proofs.YtjnafjgonoficaaGreatDoorW.PrintWords
open Go.RowKit
structure Aside0 (p : Prop) : Prop where mk :: (out : p)
theorem mkA {p : Prop} (h : p) : Aside0 p := ⟨h⟩
structure Drawn0 (w w':World):Prop where mk :: (out:∃ n,w'=w.drewN n)
theorem Drawn0.refl (w:World):Drawn0 w w:=⟨⟨0,rfl⟩⟩
theorem Drawn0.step {w w':World} (h:Drawn0 w w') (n:Nat):Drawn0 w (w'.drewN n):=by
  obtain ⟨m,rfl⟩:=h
  exact ⟨⟨m + n,World.drewN_drewN ..⟩⟩
def bt (s:ByteArray) (i:Int):Int:=if h:i.toNat < s.size then ((s[i.toNat]'h).toNat:Int) else 0
theorem bt_at (s:ByteArray) (i:Int):∀ h:i.toNat < s.size,((s[i.toNat]'h).toNat:Int)=bt s i:=fun h=>by simp [bt,h]
theorem bt_range (s:ByteArray) (i:Int):0 ≤ bt s i∧bt s i ≤ 255:=by
  unfold bt
  split
  · rename_i h
    have:=(s[i.toNat]'h).toNat_lt
    omega
  · omega
def nums (k:IntKind) (xs:List Int):List Value:=xs.map fun x => .int k x
theorem pw_cell_below {w w1:World} (h:Below w.heap.size w w1) {a:Addr} {v:Value} (hc:w.cell? a=some v):w1.cell? a=some v:=(h.cell (World.block_lt_of_cell? w a hc)).trans hc
theorem own_nil (W:World) (base:Nat) (e:TypeId) (size:Nat):W.ownsRow base e size (.slice none 0 0) 0 []:=⟨by simp,.inl ⟨rfl,rfl⟩⟩
theorem own_base {w:World} {base:Nat} {e:TypeId} {size n:Nat} {v:Value} {xs:List Value} (h:w.ownsRow base e size v n xs) (k:Nat) (hk:v.ownBlock=some k):base ≤ k:=by
  rcases h.2 with ⟨rfl,_⟩ | ⟨g,cap,cur,rfl,hb,_⟩
  · simp [Value.ownBlock] at hk
  · have:g=k:=by simpa [Value.ownBlock] using hk
    omega
theorem own_lt {w:World} {base:Nat} {e:TypeId} {size n:Nat} {v:Value} {xs:List Value} (h:w.ownsRow base e size v n xs) (k:Nat) (hk:v.ownBlock=some k):k < w.heap.size:=by
  rcases h.2 with ⟨rfl,_⟩ | ⟨g,cap,cur,rfl,hb,hh,_⟩
  · simp [Value.ownBlock] at hk
  · have:g=k:=by simpa [Value.ownBlock] using hk
    subst this
    exact (Array.getElem?_eq_some_iff.1 hh).1
theorem own_slice {w:World} {base n:Nat} {e:TypeId} {size:Nat} {v:Value} {xs:List Value} (h:w.ownsRow base e size v n xs):∃ A c,v=.slice A n c:=by
  rcases h.2 with ⟨rfl,rfl⟩ | ⟨g,cap,cur,rfl,_⟩
  · exact ⟨none,0,rfl⟩
  · exact ⟨_,cap,rfl⟩
section
end
section
end
section
end
theorem data_length (s:ByteArray):s.data.toList.length=s.size:=by rw [Array.length_toList];rfl
def Reps {α:Type} (R:α → List Value → Prop) (size:Nat) (ps:List α) (cs:List Value):Prop :=
  cs.length=ps.length * size∧∀ j p,ps[j]? = some p → R p ((cs.drop (j * size)).take size)
theorem Reps.imp_ {α:Type} {R R':α → List Value → Prop} {size:Nat} {ps:List α} {cs:List Value} (h:Reps R size ps cs) (hR:∀ p c,R p c → R' p c):Reps R' size ps cs:=⟨h.1,fun j p hj=>hR _ _ (h.2 j p hj)⟩
def ReadsRow {α:Type} (R:α → List Value → Prop) (size:Nat) (w:World) (A:Option Addr) (n:Nat) (ps:List α):Prop :=
  ps.length=n∧n ≤ 9223372036854775807∧(0 < n → ∃ ad,A=some ad∧∀ j p,ps[j]? = some p → ∃ c,c.length=size∧R p c∧∀ i u,c[i]? = some u → w.cell? (ad.add (j * size + i))=some u)
theorem ReadsRow.imp_ {α:Type} {R R':α → List Value → Prop} {size:Nat} {w w1:World} {A:Option Addr} {n:Nat} {ps:List α} (h:ReadsRow R size w A n ps) (hb:Below w.heap.size w w1) (hR:∀ p c,R p c → R' p c):ReadsRow R' size w1 A n ps :=
  ⟨h.1,h.2.1,fun hn=>by
    obtain ⟨ad,e,hc⟩:=h.2.2 hn
    refine ⟨ad,e,fun j p hj => ?_⟩
    obtain ⟨c,hs,hr,hcell⟩:=hc j p hj
    exact ⟨c,hs,hR _ _ hr,fun i u hu=>pw_cell_below hb (hcell i u hu)⟩⟩
theorem own_reads_row {α:Type} {R:α → List Value → Prop} {w:World} {base n size:Nat} {e:TypeId} {v:Value} {ps:List α} {cs:List Value} (h:w.ownsRow base e size v n cs) (hR:Reps R size ps cs) (hn:ps.length=n) :
    ∃ A c,v=.slice A n c∧ReadsRow R size w A n ps:=by
  rcases Nat.eq_zero_or_pos n with h0 | h0
  · rcases h.2 with ⟨rfl,rfl⟩ | ⟨g,cap,cur,rfl,_⟩
    · exact ⟨none,0,rfl,hn,by omega,fun hp=>absurd hp (by omega)⟩
    · exact ⟨_,cap,rfl,hn,by omega,fun hp=>absurd hp (by omega)⟩
  · obtain ⟨g,cap,rfl,_,_⟩:=h.form h0
    have hm:n ≤ 9223372036854775807:=by
      rcases h.2 with ⟨_,h1⟩ | ⟨g',cap',cur,he,_,_,h1,h2,_⟩
      · omega
      · simp only [maxLen] at h2
        omega
    refine ⟨_,cap,rfl,hn,hm,fun _=>⟨_,rfl,fun j p hj=>⟨(cs.drop (j * size)).take size,?_,hR.2 j p hj,fun i u hu => ?_⟩⟩⟩
    · have hjl:=(List.getElem?_eq_some_iff.1 hj).1
      have h1:j * size + size ≤ cs.length:=by rw [hR.1,← Nat.succ_mul];exact Nat.mul_le_mul_right _ hjl
      rw [List.length_take,List.length_drop]
      omega
    · refine h.cells (g:=g) rfl _ u ?_
      rw [List.getElem?_take] at hu
      split at hu
      · rw [List.getElem?_drop] at hu
        exact hu
      · cases hu
section
variable {P:Program} {ops:Array Oper} {rest:List Oper} {o:Oper} {a:Act} {Q:Exit → Act → World → Prop}
theorem print_append_cells {w0 W:World} (base:Nat) (hgd:o.guard=none) (s x:Operand) (t e:TypeId) (z:Value) (size bytes:Nat)
    (ho:o.op=.call { callee:=.builtin .append,args:=#[s,x],argTypes:=#[t,t] })
    (ht:P.underlying t=some (.slice e)) (hinfo:(P.info? e).map (fun i=>(i.zero,i.size,i.bytes))=some (some z,size,bytes)) (hz:z.cells.size=size) (hs0:0 < size) (hb0:0 < bytes)
    (v:Value) (n:Nat) (xs ys:List Value) (hs:a.eval s=v) (hx:a.eval x=.slice (some ⟨W.heap.size,0,none⟩) 1 1) (hys:ys.length=size) (h1:∀ u ∈ ys,u.oneCell'=true)
    (HO:W.ownsRow base e size v n xs) (HB:Below base w0 W) (hbase:base ≤ W.heap.size) (hl:(n + 1) * bytes ≤ 140737488355328)
    (h:∀ v1 w1,w1.ownsRow base e size v1 (n + 1) (xs ++ ys) → Below base w0 w1 → W.grownBy w1 v.ownBlock → (v1.ownBlock=v.ownBlock ∨ ∃ b,v1.ownBlock=some b∧W.heap.size ≤ b) → wpList P ops Q rest (a.put o.dst v1) w1) :
    wpList P ops Q (o :: rest) a (W.alloc (.cells ys.toArray e)):=by
  obtain ⟨i0,hi,hzz⟩:=Option.map_eq_some_iff.1 hinfo
  simp only [Prod.mk.injEq] at hzz
  obtain ⟨hz0,hz1,hz2⟩:=hzz
  have hlen:n + 1 ≤ 140737488355328:=Nat.le_trans (Nat.le_mul_of_pos_right _ hb0) hl
  refine wpList_append_own_at (W.alloc (.cells ys.toArray e)) hgd s x t ho base e i0 z size bytes ht hi hz0 hz1 hz2 hz hs0 v n xs hs (HO.alloc _) ⟨W.heap.size,0,none⟩ 1 1 ys hx (by rw [hys];simp)
    (by simpa using World.news_of_block (cs:=ys.toArray) (t:=e) (fr:=(0,0)) (heap_alloc_new W (.cells ys.toArray e))) h1 (by simp only [maxLen];omega) hl (by simp;omega) ?_
  intro v1 w1 hown hg _ hat
  refine h v1 w1 hown ((HB.alloc hbase _).grown hg (by simp;omega) (own_base HO)) (World.grownBy.trans (World.grownBy_alloc W _ _) hg) ?_
  rcases hat with hat | hat
  · exact .inl hat
  · exact .inr ⟨_,hat,by simp⟩
end
theorem own_ne {w:World} {base:Nat} {e t:TypeId} {size n g:Nat} {v:Value} {xs:List Value} {cs:Array Value} (h:w.ownsRow base e size v n xs) (hg:w.heap[g]? = some (.cells cs t (0,0))) (hne:e ≠ t):some g ≠ v.ownBlock:=by
  rcases h.2 with ⟨rfl,_⟩ | ⟨g',cap,cur,rfl,_,hh,_⟩
  · simp [Value.ownBlock]
  · intro he
    have:g=g':=by simpa [Value.ownBlock] using he
    subst this
    rw [hg] at hh
    injection hh with hh
    injection hh with _ ht
    exact hne ht.symm
theorem blk_set {w:World} {g:Nat} {t:TypeId} {cs:Array Value} (h:w.heap[g]? = some (.cells cs t (0,0))) (i:Nat) (u:Value):(w.setCell ⟨g,i,none⟩ u).heap[g]? = some (.cells (cs.setIfInBounds i u) t (0,0)):=by
  simp [World.setCell,Array.getElem?_modify,h]
theorem blk_far {w:World} {g:Nat} {t:TypeId} {cs:Array Value} (h:w.heap[g]? = some (.cells cs t (0,0))) {p:Addr} (hp:g ≠ p.block) (u:Value):(w.setCell p u).heap[g]? = some (.cells cs t (0,0)):=(Below.heap_setCell w p u g hp).trans h
theorem blk_lt {w:World} {g:Nat} {o:Obj} (h:w.heap[g]? = some o):g < w.heap.size:=(Array.getElem?_eq_some_iff.1 h).1
theorem blk_cell {w:World} {g:Nat} {t:TypeId} {cs:Array Value} (h:w.heap[g]? = some (.cells cs t (0,0))) (i:Nat):w.cell? ⟨g,i,none⟩=cs[i]?:=cell_of_row w g i cs t (0,0) h
theorem blk_frozen {w:World} {g:Nat} {t:TypeId} {cs:Array Value} (h:w.heap[g]? = some (.cells cs t (0,0))) (i:Nat):w.frozen? ⟨g,i,none⟩=false:=by simp [World.frozen?,h]
theorem blk_grown {w w1:World} {g:Nat} {o:Obj} {row:Option Nat} (h:w.heap[g]? = some o) (hg:w.grownBy w1 row) (hne:some g ≠ row):w1.heap[g]? = some o:=(hg.block g (blk_lt h) hne).trans h
section
end
theorem own_weaken {w:World} {base base':Nat} {e:TypeId} {size n:Nat} {v:Value} {xs:List Value} (h:w.ownsRow base e size v n xs) (hb:base' ≤ base):w.ownsRow base' e size v n xs:=by
  obtain ⟨h1,h2⟩:=h
  refine ⟨h1,?_⟩
  rcases h2 with h2 | ⟨g,cap,cur,rfl,hg,r⟩
  · exact .inl h2
  · exact .inr ⟨g,cap,cur,rfl,Nat.le_trans hb hg,r⟩
section
variable {α:Type} {enc:α → Value} {d:α}
theorem print_make_of {P:Program} (t e:TypeId) (z:Value) (bytes:Nat) (ht:P.underlying t=some (.slice e)) (hinfo:(P.info? e).map (fun i=>(i.zero,i.size,i.bytes))=some (some z,1,bytes)) (hz:z.cells=#[z]) (hb0:0 < bytes)
    (m:Nat) (hn:m * bytes ≤ 281474976710656) :
    ∀ W:World,(Instr.makeSlice t (.int .i64 (m:Int)) (.int .i64 (m:Int))).run P W=.ok (.slice (some ⟨W.heap.size,0,none⟩) m m) (W.alloc (.cells (madeCells #[z] m) e)):=by
  intro W
  have hm:m ≤ 281474976710656:=Nat.le_trans (Nat.le_mul_of_pos_right _ hb0) hn
  exact run_make_row' t e z bytes ht hinfo hz .i64 .i64 m (by rw [Nat.mul_comm];exact hn) (by omega) W
end
section
end
theorem blk_alloc {w:World} {g:Nat} {o:Obj} (h:w.heap[g]? = some o) (o':Obj):(w.alloc o').heap[g]? = some o:=(Below.heap_alloc w o' g (blk_lt h)).trans h
theorem blk_drewN {w:World} {g:Nat} {o:Obj} (h:w.heap[g]? = some o) (n:Nat):(w.drewN n).heap[g]? = some o:=h
theorem blk_new (w:World) (o:Obj):(w.alloc o).heap[w.heap.size]? = some o:=heap_alloc_new w o
section
end
theorem own_le {w:World} {base n m c size:Nat} {e:TypeId} {A:Option Addr} {xs:List Value} (h:w.ownsRow base e size (.slice A m c) n xs):m ≤ c:=by
  rcases h.2 with ⟨he,_⟩ | ⟨g,cap,cur,he,_,_,hnc,_⟩
  · injection he with _ h2 h3
    omega
  · injection he with _ h2 h3
    omega
def OwnRow {α:Type} (R:α → List Value → Prop) (e:TypeId) (size:Nat) (w:World) (base:Nat) (v:Value) (ps:List α):Prop :=
  ∃ inner,w.ownsRow base e size v ps.length inner∧Reps R size ps inner
section
variable {α:Type} {R R':α → List Value → Prop} {e:TypeId} {size:Nat} {w w1:World} {base:Nat} {v:Value} {ps:List α}
theorem OwnRow.imp_ (h:OwnRow R e size w base v ps) (hR:∀ p c,R p c → R' p c):OwnRow R' e size w base v ps:=by
  obtain ⟨inner,ho,hr⟩:=h
  exact ⟨inner,ho,hr.imp_ hR⟩
theorem OwnRow.reads (h:OwnRow R e size w base v ps):∃ A c,v=.slice A ps.length c∧ps.length ≤ c∧ReadsRow R size w A ps.length ps:=by
  obtain ⟨inner,ho,hr⟩:=h
  obtain ⟨A,c,rfl,hrow⟩:=own_reads_row ho hr rfl
  exact ⟨A,c,rfl,own_le ho,hrow⟩
end
section
variable {P:Program} {ops:Array Oper} {rest:List Oper} {o:Oper} {a:Act} {Q:Exit → Act → World → Prop} {α:Type} {R:α → List Value → Prop}
end
section
end
section
end
section
end
structure Kd (α:Type) where
  sz:Nat
  E:List Nat
  K:World → α → List Value → Prop
  M:World → Nat → (Nat → Prop) → α → List Value → Prop
  K_len:∀ {w x cs},K w x cs → cs.length=sz
  K_one:∀ {w x cs},K w x cs → ∀ u ∈ cs,u.oneCell'=true
  K_below:∀ {w w1:World} {x cs},Below w.heap.size w w1 → K w x cs → K w1 x cs
  K_of_M:∀ {w base ok x cs},M w base ok x cs → K w x cs
  M_mono:∀ {w base ok ok' x cs},(∀ k,ok k → ok' k) → M w base ok x cs → M w base ok' x cs
  M_bound:∀ {w:World} {base ok x cs},M w base ok x cs → M w base (fun k=>ok k∧base ≤ k∧k < w.heap.size∧∃ q,q ∈ E∧∃ cells,w.heap[k]? = some (.cells cells q (0,0))) x cs
  M_move:∀ {w w1:World} {base ok x cs},(∀ k,ok k → w1.heap[k]? = w.heap[k]?) → M w base ok x cs → M w1 base ok x cs
  M_lower:∀ {w base base' ok x cs},base' ≤ base → M w base ok x cs → M w base' ok x cs
theorem own_move {w w1:World} {base:Nat} {e:TypeId} {size n:Nat} {v:Value} {xs:List Value} (h:w.ownsRow base e size v n xs) (hm:∀ k,v.ownBlock=some k → w1.heap[k]? = w.heap[k]?):w1.ownsRow base e size v n xs:=by
  obtain ⟨h1,h2⟩:=h
  refine ⟨h1,?_⟩
  rcases h2 with h2 | ⟨g,cap,cur,rfl,hg,hh,r⟩
  · exact .inl h2
  · exact .inr ⟨g,cap,cur,rfl,hg,(hm g (by simp [Value.ownBlock])).trans hh,r⟩
theorem own_typed {w:World} {base:Nat} {e:TypeId} {size n:Nat} {v:Value} {xs:List Value} (h:w.ownsRow base e size v n xs) (k:Nat) (hk:v.ownBlock=some k):∃ cells,w.heap[k]? = some (.cells cells e (0,0)):=by
  rcases h.2 with ⟨rfl,_⟩ | ⟨g,cap,cur,rfl,hg,hh,r⟩
  · simp [Value.ownBlock] at hk
  · have:g=k:=by simpa [Value.ownBlock] using hk
    subst this
    exact ⟨cur,hh⟩
namespace Kd
def C {α:Type} (d:Kd α) (w:World) (A:Option Addr) (n:Nat) (xs:List α):Prop:=ReadsRow (d.K w) d.sz w A n xs
def R {α:Type} (d:Kd α) (e:Nat) (w:World) (base:Nat) (ok:Nat → Prop) (v:Value) (xs:List α):Prop :=
  (∀ k,v.ownBlock=some k → ok k)∧OwnRow (d.M w base (fun k=>ok k∧some k ≠ v.ownBlock)) e d.sz w base v xs
section
variable {α:Type} {d:Kd α} {e:Nat} {w w1:World} {base:Nat} {ok ok':Nat → Prop} {v:Value} {xs:List α}
theorem C_below {A:Option Addr} {n:Nat} (h:d.C w A n xs) (hb:Below w.heap.size w w1):d.C w1 A n xs:=ReadsRow.imp_ h hb (fun _ _ hp=>d.K_below hb hp)
theorem R_mono (h:d.R e w base ok v xs) (hok:∀ k,ok k → ok' k):d.R e w base ok' v xs:=⟨fun k hk=>hok k (h.1 k hk),h.2.imp_ (fun _ _ hp=>d.M_mono (fun k hk=>⟨hok k hk.1,hk.2⟩) hp)⟩
theorem R_bound (h:d.R e w base ok v xs):d.R e w base (fun k=>ok k∧base ≤ k∧k < w.heap.size∧∃ q,q ∈ e :: d.E∧∃ cells,w.heap[k]? = some (.cells cells q (0,0))) v xs:=by
  obtain ⟨h0,inner,ho,hr⟩:=h
  refine ⟨fun k hk => ?_,inner,ho,hr.imp_ (fun _ _ hp=>d.M_mono (fun k hk => ?_) (d.M_bound hp))⟩
  · obtain ⟨cells,hc⟩:=own_typed ho k hk
    exact ⟨h0 k hk,own_base ho k hk,own_lt ho k hk,e,List.mem_cons_self,cells,hc⟩
  · obtain ⟨⟨h1,h2⟩,h3,h4,q,hq,hc⟩:=hk
    exact ⟨⟨h1,h3,h4,q,List.mem_cons_of_mem _ hq,hc⟩,h2⟩
theorem R_move (h:d.R e w base ok v xs) (hm:∀ k,ok k → w1.heap[k]? = w.heap[k]?):d.R e w1 base ok v xs:=by
  obtain ⟨h0,inner,ho,hr⟩:=h
  exact ⟨h0,inner,own_move ho (fun k hk=>hm k (h0 k hk)),hr.imp_ (fun _ _ hp=>d.M_move (fun k hk=>hm k hk.1) hp)⟩
theorem R_lower {base':Nat} (h:d.R e w base ok v xs) (hb:base' ≤ base):d.R e w base' ok v xs:=by
  obtain ⟨h0,inner,ho,hr⟩:=h
  exact ⟨h0,inner,own_weaken ho hb,hr.imp_ (fun _ _ hp=>d.M_lower hb hp)⟩
theorem R_reads (h:d.R e w base ok v xs):∃ A c,v=.slice A xs.length c∧xs.length ≤ c∧d.C w A xs.length xs:=by
  obtain ⟨A,c,he,hl,hr⟩:=OwnRow.reads h.2
  exact ⟨A,c,he,hl,hr.imp_ (Below.refl _ _) (fun _ _ hp=>d.K_of_M hp)⟩
end
def scalar {α:Type} (enc:α → Value) (h1:∀ x,(enc x).oneCell'=true):Kd α where
  sz:=1
  E:=[]
  K:=fun _ x cs=>cs=[enc x]
  M:=fun _ _ _ x cs=>cs=[enc x]
  K_len:=fun h=>by rw [h];rfl
  K_one:=fun h u hu=>by
    rw [h] at hu
    rw [List.mem_singleton.1 hu]
    exact h1 _
  K_below:=fun _ h=>h
  K_of_M:=fun h=>h
  M_mono:=fun _ h=>h
  M_bound:=fun h=>h
  M_move:=fun _ h=>h
  M_lower:=fun _ h=>h
def int (k:IntKind):Kd Int:=scalar (Value.int k) (fun _=>rfl)
def bool:Kd Bool:=scalar Value.bool (fun _=>rfl)
def string:Kd ByteArray:=scalar Value.string (fun _=>rfl)
def slice {α:Type} (e:Nat) (d:Kd α):Kd (List α) where
  sz:=1
  E:=e :: d.E
  K:=fun w xs cs => ∃ A c,cs=[.slice A xs.length c]∧xs.length ≤ c∧d.C w A xs.length xs
  M:=fun w base ok xs cs => ∃ v,cs=[v]∧d.R e w base ok v xs
  K_len:=by
    rintro w x cs ⟨A,c,rfl,_⟩
    rfl
  K_one:=by
    rintro w x cs ⟨A,c,rfl,_⟩ u hu
    rw [List.mem_singleton.1 hu]
    rfl
  K_below:=by
    rintro w w1 x cs hb ⟨A,c,rfl,hl,hr⟩
    exact ⟨A,c,rfl,hl,C_below hr hb⟩
  K_of_M:=by
    rintro w base ok x cs ⟨v,rfl,h⟩
    obtain ⟨A,c,rfl,hl,hr⟩:=R_reads h
    exact ⟨A,c,rfl,hl,hr⟩
  M_mono:=by
    rintro w base ok ok' x cs hok ⟨v,rfl,h⟩
    exact ⟨v,rfl,R_mono h hok⟩
  M_bound:=by
    rintro w base ok x cs ⟨v,rfl,h⟩
    exact ⟨v,rfl,R_bound h⟩
  M_move:=by
    rintro w w1 base ok x cs hm ⟨v,rfl,h⟩
    exact ⟨v,rfl,R_move h hm⟩
  M_lower:=by
    rintro w base base' ok x cs hb ⟨v,rfl,h⟩
    exact ⟨v,rfl,R_lower h hb⟩
section
end
section
end
end Kd
namespace Kd
structure Mono {α β:Type} (F:Kd α → Kd β):Prop where
  sz:∀ d d':Kd α,d.sz=d'.sz → (F d).sz=(F d').sz
  K:∀ d d':Kd α,d.sz=d'.sz → (∀ w x cs,d.K w x cs → d'.K w x cs) → ∀ w x cs,(F d).K w x cs → (F d').K w x cs
  M:∀ d d':Kd α,d.sz=d'.sz → (∀ w base ok x cs,d.M w base ok x cs → d'.M w base ok x cs) → ∀ w base ok x cs,(F d).M w base ok x cs → (F d').M w base ok x cs
section
end
section
end
section
end
section
end
end Kd
section
end
def QRow (w:World) (base:Nat) (e:TypeId) (size:Nat) (v:Value) (n:Nat) (xs:List Value):Prop :=
  xs.length=n * size ∧
  ((n=0∧∃ A,v=.slice A 0 0∧∀ a,A=some a → base ≤ a.block∧∃ cur,w.heap[a.block]? = some (.cells cur e (0,0))) ∨
   ∃ g off cap cur,v=.slice (some ⟨g,off * size,none⟩) n cap∧base ≤ g∧w.heap[g]? = some (.cells cur e (0,0))∧n ≤ cap∧off + cap ≤ maxLen∧cur.size=(off + cap) * size∧(cur.toList.drop (off * size)).take (n * size)=xs)
section
end
section
end
namespace Kd
def Q {α:Type} (d:Kd α) (e:Nat) (w:World) (base:Nat) (ok:Nat → Prop) (v:Value) (xs:List α):Prop :=
  (∀ k,v.ownBlock=some k → ok k)∧∃ inner,QRow w base e d.sz v xs.length inner∧Reps (d.M w base (fun k=>ok k∧some k ≠ v.ownBlock)) d.sz xs inner
section
end
section
end
section
end
section
end
section
end
section
end
section
end
section
end
end Kd
section
end
theorem blk_put {w:World} {g:Nat} {t:TypeId} {cs cs':Array Value} (h:w.heap[g]? = some (.cells cs t (0,0))) (i:Nat) (u:Value) (e:cs.setIfInBounds i u=cs'):(w.setCell ⟨g,i,none⟩ u).heap[g]? = some (.cells cs' t (0,0)):=e ▸ blk_set h i u
namespace Kd
section
variable {α β:Type} {d:Kd α} {d':Kd β} {e e' base base' n:Nat} {ok ok':Nat → Prop} {w W w1 W1:World} {v u:Value} {xs:List α} {ys:List β} {A:Option Addr} {c:Nat}
end
section
end
end Kd
namespace Kd
section
end
end Kd
section
end
namespace Kd
section
end
end Kd
section
end
namespace Kd
section
end
end Kd
section
end
section
namespace Kd
end Kd
end
inductive Vals (P:Program) (tmps:Array Value) (w:World):List ResultVar → List Value → Prop where
  | nil:Vals P tmps w [] []
  | tmp {u:Tmp} {rs:List ResultVar} {vs:List Value} (h:Vals P tmps w rs vs):Vals P tmps w (.tmp u :: rs) (tmps.getD u undef :: vs)
  | cell {p:Tmp} {ty:TypeId} {rs:List ResultVar} {vs:List Value} (g:Nat) (t:TypeId) (cs:Array Value) (fr:Nat × Nat) (d:TypeDesc)
      (hp:tmps.getD p undef=.pointer (some ⟨g,0,none⟩)) (hg:w.heap[g]? = some (.cells cs t fr))
      (hu:P.underlying ty=some d) (hd:(match d with | .struct _ | .array _ _=>true | _=>false)=true) (hi:(P.info? ty).map (·.size)=some cs.size)
      (h:Vals P tmps w rs vs):Vals P tmps w (.cell p ty :: rs) (.agg cs :: vs)
section
end
namespace Kd
section
end
section
end
end Kd
end Go.Proofs.YtjnafjgonoficaaGreatDoorW.PrintWords
namespace Go.Proofs.YtjnafjgonoficaaGreatDoor
open Go.RowKit Go.Proofs.YtjnafjgonoficaaGreatDoorW.PrintWords
namespace Lx
def isL (c:Int):Bool:=decide (97 ≤ c∧c ≤ 122 ∨ 65 ≤ c∧c ≤ 90 ∨ c=95)
def isD (c:Int):Bool:=decide (48 ≤ c∧c ≤ 57)
def B (s:ByteArray) (i:Nat):Int:=bt s (i:Int)
theorem B_ge {s:ByteArray} {i:Nat} (h:s.size ≤ i):B s i=0:=by
  unfold B bt;rw [dif_neg (by simp;omega)]
theorem B_lt_of_ne {s:ByteArray} {i:Nat} (h:B s i ≠ 0):i < s.size:=by
  by_cases hh:i < s.size
  · exact hh
  · exact absurd (B_ge (by omega)) h
theorem B_range (s:ByteArray) (i:Nat):0 ≤ B s i∧B s i ≤ 255:=bt_range s i
def runW (s:ByteArray) (i:Nat):Nat:=if h:i < s.size then (if isL (B s i) || isD (B s i) then runW s (i + 1) else i) else i
  termination_by s.size - i
def nameEnd (s:ByteArray) (a:Nat):Nat:=if isL (B s a) then runW s a else a
def runN (s:ByteArray) (i:Nat):Nat :=
  if h:i < s.size then
    (if isL (B s i) || isD (B s i) || decide (B s i=46) || (decide (B s i=43 ∨ B s i=45) && decide (B s (i - 1)=101 ∨ B s (i - 1)=69)) then runN s (i + 1) else i)
  else i
  termination_by s.size - i
def numEnd (s:ByteArray) (a:Nat):Nat :=
  if isD (B s a) || (decide (B s a=46) && isD (B s (a + 1))) then runN s (a + 1) else a
def runQ (s:ByteArray) (m:Int) (a i:Nat):Nat :=
  if h:i < s.size then
    (if B s i=m then i + 1
     else if B s i=10 then a
     else if B s i=92 then (if B s (i + 1)=10 then a else runQ s m a (i + 2))
     else runQ s m a (i + 1))
  else a
  termination_by s.size - i
def quoteEnd (s:ByteArray) (m:Int) (a:Nat):Nat:=if B s a=m then runQ s m a (a + 1) else a
def lineCut (s:ByteArray) (a i:Nat):Nat:=if a + 1 < i∧B s (i - 1)=13 then i - 1 else i
def runL (s:ByteArray) (a i:Nat):Nat :=
  if h:i < s.size then
    (if B s i=10∧¬ (B s (i - 1)=92 ∨ a + 2 ≤ i∧B s (i - 1)=13∧B s (i - 2)=92) then lineCut s a i else runL s a (i + 1))
  else i
  termination_by s.size - i
def runC (s:ByteArray) (i:Nat):Nat :=
  if h:i < s.size then (if B s i=42∧B s (i + 1)=47 then i + 2 else runC s (i + 1)) else s.size
  termination_by s.size - i
def runS (s:ByteArray) (i:Nat):Nat :=
  if h:i < s.size then (if B s i=10 then i else runS s (i + 1)) else i
  termination_by s.size - i
def commentEnd (s:ByteArray) (a:Nat):Nat :=
  if B s a=47∧B s (a + 1)=47 then runS s a else if B s a=47∧B s (a + 1)=42 then runC s (a + 2) else a
def pieceEnd (s:ByteArray) (a:Nat):Nat :=
  if B s a=32 ∨ B s a=9 ∨ B s a=10 ∨ B s a=11 ∨ B s a=12 ∨ B s a=13 then a + 1
  else if B s a=92 then (if B s (a + 1)=10 then a + 2 else if B s (a + 1)=13∧B s (a + 2)=10 then a + 3 else a)
  else commentEnd s a
def hasLf (s:ByteArray) (i e:Nat):Bool:=if h:i < e then (decide (B s i=10) || hasLf s (i + 1) e) else false
  termination_by e - i
def firstBehind (s:ByteArray) (a e:Nat) (first:Bool):Bool :=
  if e=a + 1∧(B s a=11 ∨ B s a=12 ∨ B s a=13) then false else (first || hasLf s a e)
def keys:List (List UInt8):=[[98,114,101,97,107],[99,97,115,101],[99,104,97,114],[99,111,110,115,116],[99,111,110,116,105,110,117,101],[100,101,102,97,117,108,116],[100,111],[101,108,115,101],[101,110,117,109],[101,120,116,101,114,110],[102,111,114],[103,111,116,111],[105,102],[105,110,116],[108,111,110,103],[114,101,116,117,114,110],[115,104,111,114,116],[115,105,103,110,101,100],[115,105,122,101,111,102],[115,116,97,116,105,99],[115,116,114,117,99,116],[115,119,105,116,99,104],[116,121,112,101,100,101,102],[117,110,105,111,110],[117,110,115,105,103,110,101,100],[118,111,105,100],[118,111,108,97,116,105,108,101],[119,104,105,108,101]]
def signs:List (List UInt8):=[[46,46,46],[60,60,61],[62,62,61],[60,60],[62,62],[60,61],[62,61],[61,61],[33,61],[38,38],[124,124],[43,43],[45,45],[43,61],[45,61],[42,61],[47,61],[37,61],[38,61],[124,61],[94,61],[45,62],[43],[45],[42],[47],[37],[38],[124],[94],[33],[126],[60],[62],[61],[63],[58],[59],[44],[46],[40],[41],[91],[93],[123],[125],[35]]
def isKey (t:ByteArray):Bool:=keys.contains t.data.toList
def begins (s:ByteArray) (a:Nat) (g:List UInt8):Bool:=g.isPrefixOf (s.data.toList.drop a)
def signOf (s:ByteArray) (a:Nat):List (List UInt8) → Nat → Nat
  | [],n=>n
  | g :: r,n=>signOf s a r (if n < g.length∧begins s a g=true then g.length else n)
def signLen (s:ByteArray) (a:Nat):Nat:=signOf s a signs 0
def gap (s:ByteArray) (a:Nat) (first:Bool):Nat × Bool :=
  if h:a < s.size∧a < pieceEnd s a then gap s (pieceEnd s a) (firstBehind s a (pieceEnd s a) first) else (a,first)
  termination_by s.size - a
def tokEnd (s:ByteArray) (a:Nat) (first:Bool):Int × Nat :=
  if first=true∧B s a=35 then (7,runL s a a)
  else if isL (B s a)=true then (if isKey (s.extract a (runW s a)) then 2 else 1,runW s a)
  else if isD (B s a) || (decide (B s a=46) && isD (B s (a + 1))) then (3,runN s (a + 1))
  else if B s a=39 ∨ B s a=34 then
    (if quoteEnd s (B s a) a=a then (8,a + 1) else (if B s a=34 then 5 else 4,quoteEnd s (B s a) a))
  else if signLen s a=0 then (8,a + 1) else (6,a + signLen s a)
structure Tok where
  k:Int
  b:ByteArray
  t:ByteArray
  a:Int
def toks (s:ByteArray) (a:Nat) (first:Bool):List Tok :=
  if h:a ≤ (gap s a first).1∧(gap s a first).1 < s.size∧(gap s a first).1 < (tokEnd s (gap s a first).1 (gap s a first).2).2 then
    ⟨(tokEnd s (gap s a first).1 (gap s a first).2).1,s.extract a (gap s a first).1,s.extract (gap s a first).1 (tokEnd s (gap s a first).1 (gap s a first).2).2,((gap s a first).1:Nat)⟩ ::
      toks s (tokEnd s (gap s a first).1 (gap s a first).2).2 false
  else [⟨0,s.extract a s.size,⟨#[]⟩,(s.size:Nat)⟩]
  termination_by s.size - a
def scan (s:ByteArray):List Tok:=toks s 0 true
theorem runW_ge (s:ByteArray) (i:Nat):i ≤ runW s i:=by
  unfold runW;split
  · split
    · have:=runW_ge s (i + 1);omega
    · omega
  · omega
  termination_by s.size - i
theorem runW_le (s:ByteArray) (i:Nat) (h:i ≤ s.size):runW s i ≤ s.size:=by
  unfold runW;split
  · split
    · exact runW_le s (i + 1) (by omega)
    · omega
  · omega
  termination_by s.size - i
theorem runN_ge (s:ByteArray) (i:Nat):i ≤ runN s i:=by
  unfold runN;split
  · split
    · have:=runN_ge s (i + 1);omega
    · omega
  · omega
  termination_by s.size - i
theorem runN_le (s:ByteArray) (i:Nat) (h:i ≤ s.size):runN s i ≤ s.size:=by
  unfold runN;split
  · split
    · exact runN_le s (i + 1) (by omega)
    · omega
  · omega
  termination_by s.size - i
theorem runQ_b (s:ByteArray) (m:Int) (a i:Nat) (ha:a < s.size) (hi:a < i):(runQ s m a i=a ∨ i < runQ s m a i)∧runQ s m a i ≤ s.size:=by
  unfold runQ;split
  · split
    · exact ⟨.inr (by omega),by omega⟩
    · split
      · exact ⟨.inl rfl,by omega⟩
      · split
        · split
          · exact ⟨.inl rfl,by omega⟩
          · have:=runQ_b s m a (i + 2) ha (by omega);omega
        · have:=runQ_b s m a (i + 1) ha (by omega);omega
  · exact ⟨.inl rfl,by omega⟩
  termination_by s.size - i
theorem lineCut_b (s:ByteArray) (a i:Nat) (h:a < i):a < lineCut s a i∧lineCut s a i ≤ i:=by unfold lineCut;split <;> omega
theorem runL_b (s:ByteArray) (a i:Nat) (ha:a < i) (hi:i ≤ s.size):a < runL s a i∧runL s a i ≤ s.size:=by
  unfold runL;split
  · split
    · have:=lineCut_b s a i ha;omega
    · exact runL_b s a (i + 1) (by omega) (by omega)
  · omega
  termination_by s.size - i
theorem runL_first (s:ByteArray) (a:Nat) (h:B s a=35):runL s a a=runL s a (a + 1):=by
  conv=>lhs;unfold runL
  rw [dif_pos (B_lt_of_ne (by rw [h];decide)),if_neg (by rw [h];simp)]
theorem runC_b (s:ByteArray) (i:Nat) (h:i ≤ s.size):i ≤ runC s i∧runC s i ≤ s.size:=by
  unfold runC;split
  · split
    · rename_i hh hc
      have:=B_lt_of_ne (s:=s) (i:=i + 1) (by rw [hc.2];decide)
      omega
    · have:=runC_b s (i + 1) (by omega);omega
  · omega
  termination_by s.size - i
theorem runS_b (s:ByteArray) (i:Nat) (h:i ≤ s.size):i ≤ runS s i∧runS s i ≤ s.size:=by
  unfold runS;split
  · split
    · omega
    · have:=runS_b s (i + 1) (by omega);omega
  · omega
  termination_by s.size - i
theorem signOf_b (s:ByteArray) (a:Nat):∀ (l:List (List UInt8)) (n:Nat),n ≤ s.size - a → signOf s a l n ≤ s.size - a
  | [],n,h=>h
  | g :: r,n,h=>by
    unfold signOf
    refine signOf_b s a r _ ?_
    split
    · rename_i hc
      have h1:=(List.isPrefixOf_iff_prefix.1 hc.2).length_le
      rw [List.length_drop,data_length] at h1
      omega
    · exact h
theorem commentEnd_b (s:ByteArray) (a:Nat) (h:a ≤ s.size):a ≤ commentEnd s a∧commentEnd s a ≤ s.size:=by
  unfold commentEnd;split
  · exact runS_b s a h
  · split
    · rename_i hc
      have:=B_lt_of_ne (s:=s) (i:=a + 1) (by rw [hc.2];decide)
      have:=runC_b s (a + 2) (by omega);omega
    · omega
theorem pieceEnd_b (s:ByteArray) (a:Nat) (h:a < s.size):a ≤ pieceEnd s a∧pieceEnd s a ≤ s.size:=by
  unfold pieceEnd;split
  · omega
  · split
    · split
      · rename_i hc
        have:=B_lt_of_ne (s:=s) (i:=a + 1) (by rw [hc];decide)
        omega
      · split
        · rename_i hc
          have:=B_lt_of_ne (s:=s) (i:=a + 2) (by rw [hc.2];decide)
          omega
        · omega
    · exact commentEnd_b s a (by omega)
theorem gap_b (s:ByteArray) (a:Nat) (f:Bool) (h:a ≤ s.size):a ≤ (gap s a f).1∧(gap s a f).1 ≤ s.size:=by
  unfold gap;split
  · rename_i hc
    have h1:=pieceEnd_b s a hc.1
    have:=gap_b s (pieceEnd s a) (firstBehind s a (pieceEnd s a) f) h1.2
    omega
  · exact ⟨Nat.le_refl _,h⟩
  termination_by s.size - a
theorem tokEnd_b (s:ByteArray) (a:Nat) (f:Bool) (h:a < s.size):a < (tokEnd s a f).2∧(tokEnd s a f).2 ≤ s.size:=by
  unfold tokEnd;split
  · rename_i hc;rw [runL_first s a hc.2];exact runL_b s a (a + 1) (by omega) (by omega)
  · split
    · rename_i hc
      refine ⟨?_,runW_le s a (by omega)⟩
      show a < runW s a
      unfold runW
      rw [dif_pos h,if_pos (by simp [hc])]
      have:=runW_ge s (a + 1);omega
    · split
      · have:=runN_ge s (a + 1);have:=runN_le s (a + 1) (by omega)
        exact ⟨by show a < runN s (a + 1);omega,this⟩
      · split
        · split
          · exact ⟨by show a < a + 1;omega,by show a + 1 ≤ _;omega⟩
          · rename_i hq
            have hb:quoteEnd s (B s a) a=runQ s (B s a) a (a + 1):=by unfold quoteEnd;rw [if_pos rfl]
            have:=runQ_b s (B s a) a (a + 1) h (by omega)
            show a < quoteEnd s (B s a) a∧quoteEnd s (B s a) a ≤ s.size
            rw [hb] at hq ⊢;omega
        · split
          · exact ⟨by show a < a + 1;omega,by show a + 1 ≤ _;omega⟩
          · have:signLen s a ≤ s.size - a:=signOf_b s a signs 0 (by omega)
            exact ⟨by show a < a + signLen s a;omega,by show a + signLen s a ≤ _;omega⟩
theorem toks_step (s:ByteArray) (a:Nat) (f:Bool) (h:a ≤ s.size):toks s a f =
    if (gap s a f).1=s.size then [⟨0,s.extract a s.size,⟨#[]⟩,(s.size:Nat)⟩]
    else ⟨(tokEnd s (gap s a f).1 (gap s a f).2).1,s.extract a (gap s a f).1,s.extract (gap s a f).1 (tokEnd s (gap s a f).1 (gap s a f).2).2,((gap s a f).1:Nat)⟩ ::
      toks s (tokEnd s (gap s a f).1 (gap s a f).2).2 false:=by
  have h1:=gap_b s a f h
  conv=>lhs;unfold toks
  by_cases he:(gap s a f).1=s.size
  · rw [if_pos he,dif_neg (by omega)]
  · have h2:=tokEnd_b s (gap s a f).1 (gap s a f).2 (by omega)
    rw [if_neg he,dif_pos ⟨h1.1,by omega,h2.1⟩]
end Lx
def Sc (w:World) (b:Nat) (s:ByteArray) (a:Nat) (km sg:Value) (cl:Bool):Prop :=
  w.heap[b]? = some (.cells #[.string s,.int .i64 a,km,sg,.bool cl] 140 (0,0))
theorem Sc.drewN {w:World} {b:Nat} {s:ByteArray} {a:Nat} {km sg:Value} {cl:Bool} (h:Sc w b s a km sg cl) (n:Nat):Sc (w.drewN n) b s a km sg cl:=h
theorem Sc.drawn {w w':World} {b:Nat} {s:ByteArray} {a:Nat} {km sg:Value} {cl:Bool} (h:Sc w b s a km sg cl) (hd:Drawn0 w w'):Sc w' b s a km sg cl:=by
  obtain ⟨n,rfl⟩:=hd;exact h
theorem Sc.cells {w:World} {b:Nat} {s:ByteArray} {a:Nat} {km sg:Value} {cl:Bool} (h:Sc w b s a km sg cl) :
    w.cell? ⟨b,0,none⟩=some (.string s)∧w.cell? ⟨b,1,none⟩=some (.int .i64 a)∧w.cell? ⟨b,2,none⟩=some km∧w.cell? ⟨b,3,none⟩=some sg∧w.cell? ⟨b,4,none⟩=some (.bool cl) ∧
    w.frozen? ⟨b,1,none⟩=false∧w.frozen? ⟨b,4,none⟩=false:=by
  refine ⟨?_,?_,?_,?_,?_,blk_frozen h 1,blk_frozen h 4⟩ <;> (rw [blk_cell h];rfl)
theorem drawn_refl2 (w:World) (n m:Nat):Drawn0 w ((w.drewN n).drewN m):=⟨⟨n + m,by rw [World.drewN_drewN]⟩⟩
theorem isLetter_calls (c:Int) (w:World) :
    Calls Tryz.prog 163 #[.int .u8 c] w fun e w'=>e=.returned (.bool (Lx.isL c))∧w=w':=by
  by_cases h1:97 ≤ c
  all_goals by_cases h2:c ≤ 122
  all_goals by_cases h3:65 ≤ c
  all_goals by_cases h4:c ≤ 90
  all_goals by_cases h5:c=95
  all_goals try omega
  all_goals
    have e:Lx.isL c=decide (97 ≤ c∧c ≤ 122 ∨ 65 ≤ c∧c ≤ 90 ∨ c=95):=rfl
    simp only [h1,h2,h3,h4,h5] at e
    have E:=mkA e
    clear e
    go_enter Tryz.func163,Tryz.ntmps163
    go_wp2
    go_ret
    exact ⟨by rw [E.out];simp [*],rfl⟩
theorem isDigit_calls (c:Int) (w:World) :
    Calls Tryz.prog 164 #[.int .u8 c] w fun e w'=>e=.returned (.bool (Lx.isD c))∧w=w':=by
  by_cases h1:48 ≤ c
  all_goals by_cases h2:c ≤ 57
  all_goals
    have e:Lx.isD c=decide (48 ≤ c∧c ≤ 57):=rfl
    simp only [h1,h2] at e
    have E:=mkA e
    clear e
    go_enter Tryz.func164,Tryz.ntmps164
    go_wp2
    go_ret
    exact ⟨by rw [E.out];simp,rfl⟩
theorem rest_calls (b:Nat) (s:ByteArray) (a:Nat) (km sg:Value) (cl:Bool) (w:World) (hb:Sc w b s a km sg cl) (h:a ≤ s.size) :
    Calls Tryz.prog 159 #[.pointer (some ⟨b,0,none⟩)] w fun e w'=>e=.returned (.string (s.extract a s.size))∧Drawn0 w w':=by
  obtain ⟨c0,c1,-,-,-,-,-⟩:=hb.cells
  clear hb
  go_enter Tryz.func159,Tryz.ntmps159
  go_wp2
  go_quiet (fail)
  go_wp2
  go_ret
  exact ⟨rfl,⟨⟨_,rfl⟩⟩⟩
theorem next_lt (b:Nat) (s:ByteArray) (a:Nat) (n j:Int) (km sg:Value) (cl:Bool) (w:World)
    (hb:Sc w b s a km sg cl) (hj:(a:Int) + n=j) (h0:0 ≤ j) (h1:j < s.size) (hs:s.size ≤ 4611686018427387903) :
    Calls Tryz.prog 157 #[.pointer (some ⟨b,0,none⟩),.int .i64 n] w fun e w'=>e=.returned (.int .u8 (bt s j))∧Drawn0 w w':=by
  obtain ⟨c0,c1,-,-,-,-,-⟩:=hb.cells
  clear hb
  have hw:IntKind.i64.wrap (a + n)=j:=by rw [IntWalk.i64_in _ (by omega)];omega
  have hd:decide ((s.size:Int) ≤ j)=false:=by simp;omega
  have hx:=bt_at s j
  have h2:j.toNat < s.size:=by omega
  clear hj
  replace h0:=eq_true h0
  replace h1:=eq_true h1
  go_enter Tryz.func157,Tryz.ntmps157
  go_wp2
  go_quiet (fail)
  go_wp2
  go_quiet (fail)
  go_wp2
  go_ret
  exact ⟨by simp,drawn_refl2 _ _ _⟩
theorem next_ge (b:Nat) (s:ByteArray) (a:Nat) (n j:Int) (km sg:Value) (cl:Bool) (w:World)
    (hb:Sc w b s a km sg cl) (hj:(a:Int) + n=j) (h1:s.size ≤ j) (h2:j ≤ 4611686018427387903) :
    Calls Tryz.prog 157 #[.pointer (some ⟨b,0,none⟩),.int .i64 n] w fun e w'=>e=.returned (.int .u8 (bt s j))∧Drawn0 w w':=by
  obtain ⟨c0,c1,-,-,-,-,-⟩:=hb.cells
  clear hb
  have hw:IntKind.i64.wrap (a + n)=j:=by rw [IntWalk.i64_in _ (by omega)];omega
  have hd:decide ((s.size:Int) ≤ j)=true:=by simp;omega
  clear hj
  go_enter Tryz.func157,Tryz.ntmps157
  go_wp2
  go_quiet (fail)
  go_wp2
  go_ret
  exact ⟨by simp [bt,show ¬ j.toNat < s.size by omega],⟨⟨_,rfl⟩⟩⟩
theorem next_calls (b:Nat) (s:ByteArray) (a:Nat) (n:Int) (km sg:Value) (cl:Bool) (w:World)
    (hb:Sc w b s a km sg cl) (hs:s.size ≤ 1000000) (ha:a ≤ s.size) (h0:0 ≤ n) (h1:n ≤ 2000000) :
    Calls Tryz.prog 157 #[.pointer (some ⟨b,0,none⟩),.int .i64 n] w fun e w'=>e=.returned (.int .u8 (Lx.B s (a + n.toNat)))∧Drawn0 w w':=by
  have e:Lx.B s (a + n.toNat)=bt s (a + n):=by unfold Lx.B;congr 1;omega
  rw [e]
  by_cases h:(a:Int) + n < s.size
  · exact next_lt b s a n _ km sg cl w hb rfl (by omega) h (by omega)
  · exact next_ge b s a n _ km sg cl w hb rfl (by omega) (by omega)
namespace Lx
theorem B_at (s:ByteArray) (i:Nat) (h:i < s.size):∃ b:UInt8,B s i=(b.toNat:Int)∧s.data.toList[i]? = some b∧s.data.toList.drop i=b :: s.data.toList.drop (i + 1):=by
  have hl:i < s.data.toList.length:=by rw [data_length];exact h
  refine ⟨s.data.toList[i],?_,by simp [hl],List.drop_eq_getElem_cons hl⟩
  unfold B bt
  rw [dif_pos (by simpa using h)]
  rfl
theorem drop_none (s:ByteArray) (i:Nat) (h:s.size ≤ i):s.data.toList.drop i=[]:=List.drop_eq_nil_of_le (by rw [data_length];exact h)
theorem toNat_beq (b c:UInt8):(b == c)=decide ((b.toNat:Int)=(c.toNat:Int)):=by
  rw [Bool.eq_iff_iff,beq_iff_eq,decide_eq_true_eq]
  constructor
  · intro h;rw [h]
  · intro h;exact UInt8.toNat_inj.1 (by omega)
theorem prefix_one (s:ByteArray) (a:Nat) (x:UInt8) (hx:x.toNat ≠ 0):[x].isPrefixOf (s.data.toList.drop a)=decide (B s a=(x.toNat:Int)):=by
  by_cases h:a < s.size
  · obtain ⟨b,hb,-,hd⟩:=B_at s a h
    rw [hd,hb]
    simp only [List.isPrefixOf,Bool.and_true]
    rw [toNat_beq]
    congr 1
    exact propext ⟨fun e=>e.symm,fun e=>e.symm⟩
  · rw [drop_none s a (by omega),B_ge (by omega)]
    simp only [List.isPrefixOf]
    symm;rw [decide_eq_false_iff_not];omega
theorem prefix_two (s:ByteArray) (a:Nat) (x y:UInt8) (hx:x.toNat ≠ 0) (hy:y.toNat ≠ 0) :
    [x,y].isPrefixOf (s.data.toList.drop a)=(decide (B s a=(x.toNat:Int)) && decide (B s (a + 1)=(y.toNat:Int))):=by
  by_cases h:a < s.size
  · obtain ⟨b,hb,-,hd⟩:=B_at s a h
    rw [hd,hb,← prefix_one s (a + 1) y hy]
    simp only [List.isPrefixOf]
    rw [toNat_beq]
    congr 2
    exact propext ⟨fun e=>e.symm,fun e=>e.symm⟩
  · rw [drop_none s a (by omega),B_ge (by omega)]
    simp only [List.isPrefixOf]
    rw [decide_eq_false (by omega),Bool.false_and]
theorem ix_runS (s:ByteArray) (i:Nat) (h:i ≤ s.size):Lib.indexByte (s.data.toList.drop i) 10=if runS s i < s.size then ((runS s i - i:Nat):Int) else -1:=by
  by_cases hi:i < s.size
  · obtain ⟨b,hb,-,hd⟩:=B_at s i hi
    have ih:=ix_runS s (i + 1) (by omega)
    have h2:=runS_b s (i + 1) (by omega)
    rw [hd]
    unfold Lib.indexByte
    conv=>rhs;unfold runS
    rw [dif_pos hi,hb,toNat_beq]
    by_cases h10:(b.toNat:Int)=10
    · rw [if_pos h10,if_pos hi,if_pos (by rw [h10];rfl),Nat.sub_self];rfl
    · rw [if_neg h10,if_neg (by simpa using h10),ih]
      by_cases hr:runS s (i + 1) < s.size
      · rw [if_pos hr,if_pos hr,if_neg (by rw [beq_iff_eq];omega)];omega
      · rw [if_neg hr,if_neg hr];rfl
  · rw [drop_none s i (by omega)]
    unfold runS
    rw [dif_neg hi,if_neg hi];rfl
  termination_by s.size - i
theorem ix_runC (s:ByteArray) (i:Nat) (h:i ≤ s.size):(Lib.index (s.data.toList.drop i) [42,47] = -1∧runC s i=s.size) ∨
    (∃ j:Nat,Lib.index (s.data.toList.drop i) [42,47]=j∧runC s i=i + j + 2∧i + j + 2 ≤ s.size):=by
  by_cases hi:i < s.size
  · obtain ⟨b,hb,-,hd⟩:=B_at s i hi
    have hp:=prefix_two s i 42 47 (by decide) (by decide)
    have ih:=ix_runC s (i + 1) (by omega)
    rw [hd] at hp
    rw [hd]
    unfold Lib.index
    rw [hp]
    unfold runC
    rw [dif_pos hi]
    by_cases hc:B s i=42∧B s (i + 1)=47
    · rw [if_pos hc,if_pos (by rw [hc.1,hc.2];rfl)]
      have:=B_lt_of_ne (s:=s) (i:=i + 1) (by rw [hc.2];decide)
      exact .inr ⟨0,rfl,by omega,by omega⟩
    · rw [if_neg hc,if_neg (by rw [Bool.and_eq_true,decide_eq_true_eq,decide_eq_true_eq];exact hc)]
      rcases ih with ⟨h1,h2⟩ | ⟨j,h1,h2,h3⟩
      · exact .inl ⟨by rw [h1];rfl,h2⟩
      · refine .inr ⟨j + 1,?_,by omega,by omega⟩
        rw [h1,if_neg (by rw [beq_iff_eq];omega)];omega
  · refine .inl ⟨?_,?_⟩
    · rw [drop_none s i (by omega)];rfl
    · unfold runC;rw [dif_neg hi]
  termination_by s.size - i
theorem lf_take (s:ByteArray) (a n:Nat) (h:a + n ≤ s.size):decide (0 ≤ Lib.indexByte ((s.data.toList.drop a).take n) 10)=hasLf s a (a + n):=by
  induction n generalizing a with
  | zero=>unfold hasLf;rw [dif_neg (by omega)];simp [Lib.indexByte]
  | succ n ih =>
    obtain ⟨b,hb,-,hd⟩:=B_at s a (by omega)
    rw [hd,List.take_succ_cons]
    unfold hasLf
    rw [dif_pos (by omega),show a + (n + 1)=a + 1 + n from by omega,← ih (a + 1) (by omega),hb]
    have e:Lib.indexByte (b :: List.take n (List.drop (a + 1) s.data.toList)) 10=if b == 10 then 0 else if Lib.indexByte (List.take n (List.drop (a + 1) s.data.toList)) 10 == -1 then -1 else Lib.indexByte (List.take n (List.drop (a + 1) s.data.toList)) 10 + 1:=rfl
    rw [e,toNat_beq]
    have hg:=Lib.indexByte_ge (List.take n (List.drop (a + 1) s.data.toList)) 10
    generalize Lib.indexByte (List.take n (List.drop (a + 1) s.data.toList)) 10=q at *
    by_cases h10:(b.toNat:Int)=10
    · rw [if_pos (by rw [h10];rfl),decide_eq_true h10];rfl
    · rw [if_neg (by simpa using h10),decide_eq_false h10,Bool.false_or]
      by_cases h1:q = -1
      · rw [h1];rfl
      · rw [if_neg (by rw [beq_iff_eq];exact h1),decide_eq_true (by omega),decide_eq_true (by omega)]
theorem suffix_one (s:ByteArray) (a n:Nat) (x:UInt8) (h:a + n ≤ s.size):Lib.hasSuffix ((s.data.toList.drop a).take n) [x]=decide (0 < n∧B s (a + n - 1)=(x.toNat:Int)):=by
  cases n with
  | zero =>
    rw [List.take_zero]
    rw [decide_eq_false (by omega)]
    simp [Lib.hasSuffix,List.isSuffixOf]
  | succ n =>
    obtain ⟨b,hb,hg,-⟩:=B_at s (a + n) (by omega)
    have e:(s.data.toList.drop a).take (n + 1)=(s.data.toList.drop a).take n ++ [b]:=by
      rw [List.take_add_one,List.getElem?_drop,hg];rfl
    rw [e,show a + (n + 1) - 1=a + n from by omega,hb]
    unfold Lib.hasSuffix
    rw [Bool.eq_iff_iff,List.isSuffixOf_iff_suffix,decide_eq_true_eq]
    constructor
    · rintro ⟨t,ht⟩
      have:=List.append_inj_right' ht rfl
      simp only [List.cons.injEq,and_true] at this
      exact ⟨by omega,by rw [this]⟩
    · rintro ⟨-,hx⟩
      have:b=x:=UInt8.toNat_inj.1 (by omega)
      exact ⟨_,by rw [this]⟩
theorem trim_one (s:ByteArray) (a n:Nat) (x:UInt8) (h:a + n ≤ s.size):Lib.trimSuffix ((s.data.toList.drop a).take n) [x] =
    (s.data.toList.drop a).take (if 0 < n∧B s (a + n - 1)=(x.toNat:Int) then n - 1 else n):=by
  unfold Lib.trimSuffix
  rw [suffix_one s a n x h]
  by_cases hc:0 < n∧B s (a + n - 1)=(x.toNat:Int)
  · rw [if_pos (decide_eq_true hc),if_pos hc,List.take_take]
    congr 1
    rw [List.length_take,List.length_drop,data_length,List.length_singleton];omega
  · rw [if_neg (by simpa using hc),if_neg hc]
end Lx
theorem letter_calls (c:Int) (w:World) :
    Calls Tryz.prog 123 #[.int .u8 c] w fun e w'=>e=.returned (.bool (Lx.isL c))∧w=w':=by
  by_cases h1:97 ≤ c
  all_goals by_cases h2:c ≤ 122
  all_goals by_cases h3:65 ≤ c
  all_goals by_cases h4:c ≤ 90
  all_goals by_cases h5:c=95
  all_goals try omega
  all_goals
    have e:Lx.isL c=decide (97 ≤ c∧c ≤ 122 ∨ 65 ≤ c∧c ≤ 90 ∨ c=95):=rfl
    simp only [h1,h2,h3,h4,h5] at e
    have E:=mkA e
    clear e
    go_enter Tryz.func123,Tryz.ntmps123
    go_wp2
    go_ret
    exact ⟨by rw [E.out];simp [*],rfl⟩
theorem digit_calls (c:Int) (w:World) :
    Calls Tryz.prog 125 #[.int .u8 c] w fun e w'=>e=.returned (.bool (Lx.isD c))∧w=w':=by
  by_cases h1:48 ≤ c
  all_goals by_cases h2:c ≤ 57
  all_goals
    have e:Lx.isD c=decide (48 ≤ c∧c ≤ 57):=rfl
    simp only [h1,h2] at e
    have E:=mkA e
    clear e
    go_enter Tryz.func125,Tryz.ntmps125
    go_wp2
    go_ret
    exact ⟨by rw [E.out];simp,rfl⟩
theorem byteAt_calls (s:ByteArray) (i:Int) (w:World) (h0:0 ≤ i) :
    Calls Tryz.prog 120 #[.string s,.int .i64 i] w fun e w'=>e=.returned (.int .u8 (Lx.B s i.toNat))∧w=w':=by
  have hn:decide (i < 0)=false:=by simp;omega
  by_cases h:i < s.size
  · have hd:decide ((s.size:Int) ≤ i)=false:=by simp;omega
    have hx:=bt_at s i
    have h2:i.toNat < s.size:=by omega
    replace h0':=eq_true h0
    replace h:=eq_true h
    go_enter Tryz.func120,Tryz.ntmps120
    go_wp2
    go_ret
    exact ⟨by unfold Lx.B;rw [show ((i.toNat:Nat):Int)=i from by omega];simp,rfl⟩
  · have hd:decide ((s.size:Int) ≤ i)=true:=by simp;omega
    have hB:=Lx.B_ge (s:=s) (i:=i.toNat) (by omega)
    go_enter Tryz.func120,Tryz.ntmps120
    go_wp2
    go_ret
    exact ⟨by simp [hB],rfl⟩
theorem ext_eq (s g:ByteArray) (a:Nat) (h:a + g.size ≤ s.size):((s.extract a (a + g.size)).toList == g.toList)=Lx.begins s a g.data.toList:=by
  rw [ByteArray.toList_eq,ByteArray.toList_eq]
  have e1:(s.extract a (a + g.size)).data.toList=(s.data.toList.drop a).take g.size:=by
    rw [Lib.extract_data];congr 1;omega
  unfold Lx.begins
  rw [Bool.eq_iff_iff,beq_iff_eq,List.isPrefixOf_iff_prefix,List.prefix_iff_eq_take,data_length,e1]
  exact ⟨fun e=>e.symm,fun e=>e.symm⟩
theorem no_begin (s g:ByteArray) (a:Nat) (ha:a ≤ s.size) (h:s.size < a + g.size):Lx.begins s a g.data.toList=false:=by
  unfold Lx.begins
  rw [Bool.eq_false_iff]
  intro hc
  have:=(List.isPrefixOf_iff_prefix.1 hc).length_le
  rw [List.length_drop,data_length,data_length] at this
  omega
theorem beginsr_calls (s g:ByteArray) (a:Nat) (w:World) (hs:s.size ≤ 1000000) (ha:a ≤ s.size) (hg:g.size ≤ 1000) :
    Calls Tryz.prog 152 #[.string s,.int .i64 a,.string g] w fun e w'=>e=.returned (.bool (Lx.begins s a g.data.toList))∧w=w':=by
  have hw:IntKind.i64.wrap ((s.size:Int) - a)=(s.size:Int) - a:=IntWalk.i64_in _ (by omega)
  by_cases h:a + g.size ≤ s.size
  · have hd:decide ((g.size:Int) ≤ (s.size:Int) - a)=true:=by simp;omega
    have hw2:IntKind.i64.wrap ((a:Int) + g.size)=((a + g.size:Nat):Int):=by rw [IntWalk.i64_in _ (by omega)];omega
    have hx:=ext_eq s g a h
    have hl:a ≤ a + g.size:=by omega
    go_enter Tryz.func152,Tryz.ntmps152
    go_wp2
    go_ret
    exact ⟨by rw [← hx];simp,rfl⟩
  · have hd:decide ((g.size:Int) ≤ (s.size:Int) - a)=false:=by simp;omega
    have hx:=no_begin s g a ha (by omega)
    go_enter Tryz.func152,Tryz.ntmps152
    go_wp2
    go_ret
    exact ⟨by rw [hx];simp,rfl⟩
theorem begins2 (s:ByteArray) (a:Nat) (x y:UInt8) (hx:x.toNat ≠ 0) (hy:y.toNat ≠ 0) :
    Lx.begins s a (ByteArray.mk #[x,y]).data.toList=(decide (Lx.B s a=(x.toNat:Int)) && decide (Lx.B s (a + 1)=(y.toNat:Int))):=Lx.prefix_two s a x y hx hy
theorem B_get (s:ByteArray) (n:Nat) (h:n < s.size):((s[n]'h).toNat:Int)=Lx.B s n:=by
  unfold Lx.B bt
  rw [dif_pos (by simpa using h)]
  rfl
theorem commentr_calls (s:ByteArray) (a:Nat) (w:World) (hs:s.size ≤ 1000000) (ha:a ≤ s.size) :
    Calls Tryz.prog 121 #[.string s,.int .i64 a] w fun e w'=>e=.returned (.int .i64 (Lx.commentEnd s a:Nat))∧w=w':=by
  have b1:=begins2 s a 47 47 (by decide) (by decide)
  have b2:=begins2 s a 47 42 (by decide) (by decide)
  have hc:=Lx.commentEnd_b s a ha
  cases h1:Lx.begins s a (ByteArray.mk #[47,47]).data.toList
  · rw [h1] at b1
    cases h2:Lx.begins s a (ByteArray.mk #[47,42]).data.toList
    · rw [h2] at b2
      have E:Aside0 (Lx.commentEnd s a=a):=⟨by
        unfold Lx.commentEnd
        rw [if_neg (by intro hh;rw [hh.1,hh.2] at b1;revert b1;decide),if_neg (by intro hh;rw [hh.1,hh.2] at b2;revert b2;decide)]⟩
      clear b1 b2
      go_enter Tryz.func121,Tryz.ntmps121
      go_wp2_with (go_at_call 152;(with_reducible refine (beginsr_calls s _ a _ hs ha (by decide)).mono ?_);rintro e w' ⟨rfl,rfl⟩)
      go_ret
      exact ⟨by rw [E.out];simp,rfl⟩
    · rw [h2] at b2
      have b2':Lx.B s a=47∧Lx.B s (a + 1)=42:=by simpa using b2.symm
      have hlt:=Lx.B_lt_of_ne (s:=s) (i:=a + 1) (by rw [b2'.2];decide)
      have E:Aside0 (Lx.commentEnd s a=Lx.runC s (a + 2)):=⟨by
        unfold Lx.commentEnd
        rw [if_neg (by intro hh;rw [hh.1,hh.2] at b1;revert b1;decide),if_pos b2']⟩
      clear b1 b2 b2'
      go_enter Tryz.func121,Tryz.ntmps121
      go_wp2_with (go_at_call 152;(with_reducible refine (beginsr_calls s _ a _ hs ha (by decide)).mono ?_);rintro e w' ⟨rfl,rfl⟩)
      go_loopg [5] (s.size - (a + 2)) (fun kq v5 w' => ∃ n:Nat,v5=.int .i64 n∧Aside0 (n ≤ s.size∧Lx.runC s n=Lx.runC s (a + 2)∧kq=s.size - n)∧w'=w)
      case atStart=>exact ⟨a + 2,by go_num,⟨by omega,rfl,rfl⟩,rfl⟩
      case round =>
        clear h1 h2 hlt
        obtain ⟨n,rfl,HA,rfl⟩:=hrel
        have hn:=HA.out.1
        have b3:=begins2 s n 42 47 (by decide) (by decide)
        by_cases hl:n < s.size
        · have hld:decide ((n:Int) < s.size)=true:=by simpa using hl
          have hx:Lx.runC s n=if Lx.B s n=42∧Lx.B s (n + 1)=47 then n + 2 else Lx.runC s (n + 1):=by
            conv=>lhs;unfold Lx.runC
            rw [dif_pos hl]
          cases h3:Lx.begins s n (ByteArray.mk #[42,47]).data.toList
          · rw [h3] at b3
            rw [if_neg (by intro hh;rw [hh.1,hh.2] at b3;revert b3;decide)] at hx
            have X:=mkA hx
            clear hx b3
            go_wp2_with (go_at_call 152;(with_reducible refine (beginsr_calls s _ n _ hs hn (by decide)).mono ?_);rintro e w' ⟨rfl,rfl⟩)
            go_roundg (s.size - (n + 1))
            case measure=>have:=HA.out;omega
            case rel=>exact ⟨n + 1,by go_num,⟨by omega,by rw [← X.out];exact HA.out.2.1,rfl⟩,rfl⟩
          · rw [h3] at b3
            have b3':Lx.B s n=42∧Lx.B s (n + 1)=47:=by simpa using b3.symm
            rw [if_pos b3'] at hx
            have X:=mkA hx
            clear hx b3 b3'
            go_wp2_with (go_at_call 152;(with_reducible refine (beginsr_calls s _ n _ hs hn (by decide)).mono ?_);rintro e w' ⟨rfl,rfl⟩)
            go_ret
            exact ⟨by rw [E.out,← HA.out.2.1,X.out];simp,rfl⟩
        · have hld:decide ((n:Int) < s.size)=false:=by simpa using Nat.le_of_not_lt hl
          have X:Aside0 (Lx.runC s n=s.size):=⟨by unfold Lx.runC;rw [dif_neg hl]⟩
          clear b3
          go_wp2_with fail
          go_ret
          exact ⟨by rw [E.out,← HA.out.2.1,X.out];simp,rfl⟩
  · rw [h1] at b1
    have b1':Lx.B s a=47∧Lx.B s (a + 1)=47:=by simpa using b1.symm
    have E:Aside0 (Lx.commentEnd s a=Lx.runS s a):=⟨by unfold Lx.commentEnd;rw [if_pos b1']⟩
    clear b1 b2 b1'
    go_enter Tryz.func121,Tryz.ntmps121
    go_wp2_with (go_at_call 152;(with_reducible refine (beginsr_calls s _ a _ hs ha (by decide)).mono ?_);rintro e w' ⟨rfl,rfl⟩)
    go_loopg [1] (s.size - a) (fun kq v1 w' => ∃ n:Nat,v1=.int .i64 n∧Aside0 (n ≤ s.size∧Lx.runS s n=Lx.runS s a∧kq=s.size - n)∧w'=w)
    case atStart=>exact ⟨a,rfl,⟨by omega,rfl,rfl⟩,rfl⟩
    case round =>
      clear h1
      obtain ⟨n,rfl,HA,rfl⟩:=hrel
      have hn:=HA.out.1
      by_cases hl:n < s.size
      · have hld:decide ((n:Int) < s.size)=true:=by simpa using hl
        have hx:Lx.runS s n=if Lx.B s n=10 then n else Lx.runS s (n + 1):=by
          conv=>lhs;unfold Lx.runS
          rw [dif_pos hl]
        have hgx:=B_get s n hl
        cases h3:(Lx.B s n != 10)
        · have h3':=bne_eq_false_iff_eq.mp h3
          rw [if_pos h3'] at hx
          have X:=mkA hx
          clear hx h3'
          go_wp2_with fail
          go_ret
          exact ⟨by rw [E.out,← HA.out.2.1,X.out];simp,rfl⟩
        · have h3':=bne_iff_ne.mp h3
          rw [if_neg h3'] at hx
          have X:=mkA hx
          clear hx h3'
          go_wp2_with fail
          go_roundg (s.size - (n + 1))
          case measure=>have:=HA.out;omega
          case rel=>exact ⟨n + 1,by go_num,⟨by omega,by rw [← X.out];exact HA.out.2.1,rfl⟩,rfl⟩
      · have hld:decide ((n:Int) < s.size)=false:=by simpa using Nat.le_of_not_lt hl
        have X:Aside0 (Lx.runS s n=n):=⟨by unfold Lx.runS;rw [dif_neg hl]⟩
        go_wp2_with fail
        go_ret
        exact ⟨by rw [E.out,← HA.out.2.1,X.out];simp,rfl⟩
theorem tn0 (a:Nat):((a:Int)).toNat=a:=by omega
theorem tn1 (a:Nat):((a:Int) + 1).toNat=a + 1:=by omega
theorem tn2 (a:Nat):((a:Int) + 2).toNat=a + 2:=by omega
theorem piece_calls (s:ByteArray) (a:Nat) (w:World) (hs:s.size ≤ 1000000) (ha:a ≤ s.size) :
    Calls Tryz.prog 95 #[.string s,.int .i64 a] w fun e w'=>e=.returned (.int .i64 (Lx.pieceEnd s a:Nat))∧w=w':=by
  have t0:=tn0 a
  have t1:=tn1 a
  have t2:=tn2 a
  by_cases hB:Lx.B s a=32
  · have E:Aside0 (Lx.pieceEnd s a=a + 1):=⟨by unfold Lx.pieceEnd;rw [if_pos (by rw [hB];decide)]⟩
    go_enter Tryz.func95,Tryz.ntmps95
    go_wp2_with (first | (go_at_call 120;(with_reducible refine (byteAt_calls s ((a:Int)) _ (by omega)).mono ?_);rintro e w' ⟨rfl,rfl⟩) | (go_at_call 120;(with_reducible refine (byteAt_calls s ((a:Int) + 1) _ (by omega)).mono ?_);rintro e w' ⟨rfl,rfl⟩) | (go_at_call 120;(with_reducible refine (byteAt_calls s ((a:Int) + 2) _ (by omega)).mono ?_);rintro e w' ⟨rfl,rfl⟩))
    go_ret
    exact ⟨by rw [E.out];simp,rfl⟩
  by_cases hB:Lx.B s a=9
  · have E:Aside0 (Lx.pieceEnd s a=a + 1):=⟨by unfold Lx.pieceEnd;rw [if_pos (by rw [hB];decide)]⟩
    go_enter Tryz.func95,Tryz.ntmps95
    go_wp2_with (first | (go_at_call 120;(with_reducible refine (byteAt_calls s ((a:Int)) _ (by omega)).mono ?_);rintro e w' ⟨rfl,rfl⟩) | (go_at_call 120;(with_reducible refine (byteAt_calls s ((a:Int) + 1) _ (by omega)).mono ?_);rintro e w' ⟨rfl,rfl⟩) | (go_at_call 120;(with_reducible refine (byteAt_calls s ((a:Int) + 2) _ (by omega)).mono ?_);rintro e w' ⟨rfl,rfl⟩))
    go_ret
    exact ⟨by rw [E.out];simp,rfl⟩
  by_cases hB:Lx.B s a=10
  · have E:Aside0 (Lx.pieceEnd s a=a + 1):=⟨by unfold Lx.pieceEnd;rw [if_pos (by rw [hB];decide)]⟩
    go_enter Tryz.func95,Tryz.ntmps95
    go_wp2_with (first | (go_at_call 120;(with_reducible refine (byteAt_calls s ((a:Int)) _ (by omega)).mono ?_);rintro e w' ⟨rfl,rfl⟩) | (go_at_call 120;(with_reducible refine (byteAt_calls s ((a:Int) + 1) _ (by omega)).mono ?_);rintro e w' ⟨rfl,rfl⟩) | (go_at_call 120;(with_reducible refine (byteAt_calls s ((a:Int) + 2) _ (by omega)).mono ?_);rintro e w' ⟨rfl,rfl⟩))
    go_ret
    exact ⟨by rw [E.out];simp,rfl⟩
  by_cases hB:Lx.B s a=11
  · have E:Aside0 (Lx.pieceEnd s a=a + 1):=⟨by unfold Lx.pieceEnd;rw [if_pos (by rw [hB];decide)]⟩
    go_enter Tryz.func95,Tryz.ntmps95
    go_wp2_with (first | (go_at_call 120;(with_reducible refine (byteAt_calls s ((a:Int)) _ (by omega)).mono ?_);rintro e w' ⟨rfl,rfl⟩) | (go_at_call 120;(with_reducible refine (byteAt_calls s ((a:Int) + 1) _ (by omega)).mono ?_);rintro e w' ⟨rfl,rfl⟩) | (go_at_call 120;(with_reducible refine (byteAt_calls s ((a:Int) + 2) _ (by omega)).mono ?_);rintro e w' ⟨rfl,rfl⟩))
    go_ret
    exact ⟨by rw [E.out];simp,rfl⟩
  by_cases hB:Lx.B s a=12
  · have E:Aside0 (Lx.pieceEnd s a=a + 1):=⟨by unfold Lx.pieceEnd;rw [if_pos (by rw [hB];decide)]⟩
    go_enter Tryz.func95,Tryz.ntmps95
    go_wp2_with (first | (go_at_call 120;(with_reducible refine (byteAt_calls s ((a:Int)) _ (by omega)).mono ?_);rintro e w' ⟨rfl,rfl⟩) | (go_at_call 120;(with_reducible refine (byteAt_calls s ((a:Int) + 1) _ (by omega)).mono ?_);rintro e w' ⟨rfl,rfl⟩) | (go_at_call 120;(with_reducible refine (byteAt_calls s ((a:Int) + 2) _ (by omega)).mono ?_);rintro e w' ⟨rfl,rfl⟩))
    go_ret
    exact ⟨by rw [E.out];simp,rfl⟩
  by_cases hB:Lx.B s a=13
  · have E:Aside0 (Lx.pieceEnd s a=a + 1):=⟨by unfold Lx.pieceEnd;rw [if_pos (by rw [hB];decide)]⟩
    go_enter Tryz.func95,Tryz.ntmps95
    go_wp2_with (first | (go_at_call 120;(with_reducible refine (byteAt_calls s ((a:Int)) _ (by omega)).mono ?_);rintro e w' ⟨rfl,rfl⟩) | (go_at_call 120;(with_reducible refine (byteAt_calls s ((a:Int) + 1) _ (by omega)).mono ?_);rintro e w' ⟨rfl,rfl⟩) | (go_at_call 120;(with_reducible refine (byteAt_calls s ((a:Int) + 2) _ (by omega)).mono ?_);rintro e w' ⟨rfl,rfl⟩))
    go_ret
    exact ⟨by rw [E.out];simp,rfl⟩
  rename_i h1 h2 h3 h4 h5
  have k1:=beq_eq_false_iff_ne.mpr h1
  have k2:=beq_eq_false_iff_ne.mpr h2
  have k3:=beq_eq_false_iff_ne.mpr h3
  have k4:=beq_eq_false_iff_ne.mpr h4
  have k5:=beq_eq_false_iff_ne.mpr h5
  have k6:=beq_eq_false_iff_ne.mpr hB
  have hor:¬ (Lx.B s a=32 ∨ Lx.B s a=9 ∨ Lx.B s a=10 ∨ Lx.B s a=11 ∨ Lx.B s a=12 ∨ Lx.B s a=13):=by omega
  have P:Lx.pieceEnd s a=if Lx.B s a=92 then (if Lx.B s (a + 1)=10 then a + 2 else if Lx.B s (a + 1)=13∧Lx.B s (a + 2)=10 then a + 3 else a) else Lx.commentEnd s a:=by
    unfold Lx.pieceEnd;rw [if_neg hor]
  clear hor h1 h2 h3 h4 h5 hB
  cases h7:(Lx.B s a == 92)
  · rw [if_neg (beq_eq_false_iff_ne.mp h7)] at P
    have E:=mkA P
    clear P
    go_enter Tryz.func95,Tryz.ntmps95
    go_wp2_with (first | (first | (go_at_call 120;(with_reducible refine (byteAt_calls s ((a:Int)) _ (by omega)).mono ?_);rintro e w' ⟨rfl,rfl⟩) | (go_at_call 120;(with_reducible refine (byteAt_calls s ((a:Int) + 1) _ (by omega)).mono ?_);rintro e w' ⟨rfl,rfl⟩) | (go_at_call 120;(with_reducible refine (byteAt_calls s ((a:Int) + 2) _ (by omega)).mono ?_);rintro e w' ⟨rfl,rfl⟩)) | (go_at_call 121;(with_reducible refine (commentr_calls s a _ hs ha).mono ?_);rintro e w' ⟨rfl,rfl⟩))
    go_ret
    exact ⟨by rw [E.out];simp,rfl⟩
  · rw [if_pos (beq_iff_eq.mp h7)] at P
    have hB:Lx.B s a=92:=beq_iff_eq.mp h7
    clear h7 k1 k2 k3 k4 k5 k6
    cases h8:(Lx.B s (a + 1) == 10)
    · rw [if_neg (beq_eq_false_iff_ne.mp h8)] at P
      cases h9:(Lx.B s (a + 1) == 13)
      · rw [if_neg (fun hh=>beq_eq_false_iff_ne.mp h9 hh.1)] at P
        have E:=mkA P
        clear P
        go_enter Tryz.func95,Tryz.ntmps95
        go_wp2_with (first | (go_at_call 120;(with_reducible refine (byteAt_calls s ((a:Int)) _ (by omega)).mono ?_);rintro e w' ⟨rfl,rfl⟩) | (go_at_call 120;(with_reducible refine (byteAt_calls s ((a:Int) + 1) _ (by omega)).mono ?_);rintro e w' ⟨rfl,rfl⟩) | (go_at_call 120;(with_reducible refine (byteAt_calls s ((a:Int) + 2) _ (by omega)).mono ?_);rintro e w' ⟨rfl,rfl⟩))
        go_ret
        exact ⟨by rw [E.out];simp,rfl⟩
      · cases h10:(Lx.B s (a + 2) == 10)
        · rw [if_neg (fun hh=>beq_eq_false_iff_ne.mp h10 hh.2)] at P
          have E:=mkA P
          clear P
          go_enter Tryz.func95,Tryz.ntmps95
          go_wp2_with (first | (go_at_call 120;(with_reducible refine (byteAt_calls s ((a:Int)) _ (by omega)).mono ?_);rintro e w' ⟨rfl,rfl⟩) | (go_at_call 120;(with_reducible refine (byteAt_calls s ((a:Int) + 1) _ (by omega)).mono ?_);rintro e w' ⟨rfl,rfl⟩) | (go_at_call 120;(with_reducible refine (byteAt_calls s ((a:Int) + 2) _ (by omega)).mono ?_);rintro e w' ⟨rfl,rfl⟩))
          go_ret
          exact ⟨by rw [E.out];simp,rfl⟩
        · rw [if_pos ⟨beq_iff_eq.mp h9,beq_iff_eq.mp h10⟩] at P
          have E:=mkA P
          clear P
          go_enter Tryz.func95,Tryz.ntmps95
          go_wp2_with (first | (go_at_call 120;(with_reducible refine (byteAt_calls s ((a:Int)) _ (by omega)).mono ?_);rintro e w' ⟨rfl,rfl⟩) | (go_at_call 120;(with_reducible refine (byteAt_calls s ((a:Int) + 1) _ (by omega)).mono ?_);rintro e w' ⟨rfl,rfl⟩) | (go_at_call 120;(with_reducible refine (byteAt_calls s ((a:Int) + 2) _ (by omega)).mono ?_);rintro e w' ⟨rfl,rfl⟩))
          go_ret
          exact ⟨by rw [E.out];simp,rfl⟩
    · rw [if_pos (beq_iff_eq.mp h8)] at P
      have E:=mkA P
      clear P
      go_enter Tryz.func95,Tryz.ntmps95
      go_wp2_with (first | (go_at_call 120;(with_reducible refine (byteAt_calls s ((a:Int)) _ (by omega)).mono ?_);rintro e w' ⟨rfl,rfl⟩) | (go_at_call 120;(with_reducible refine (byteAt_calls s ((a:Int) + 1) _ (by omega)).mono ?_);rintro e w' ⟨rfl,rfl⟩) | (go_at_call 120;(with_reducible refine (byteAt_calls s ((a:Int) + 2) _ (by omega)).mono ?_);rintro e w' ⟨rfl,rfl⟩))
      go_ret
      exact ⟨by rw [E.out];simp,rfl⟩
def contR (c l:Int):Bool:=Lx.isL c || Lx.isD c || decide (c=46) || (decide (c=43 ∨ c=45) && decide (l=101 ∨ l=69))
theorem runN_at (s:ByteArray) (i:Nat) (h:i < s.size):Lx.runN s i=if contR (Lx.B s i) (Lx.B s (i - 1))=true then Lx.runN s (i + 1) else i:=by
  conv=>lhs;unfold Lx.runN
  rw [dif_pos h];rfl
theorem runN_out (s:ByteArray) (i:Nat) (h:¬ i < s.size):Lx.runN s i=i:=by
  unfold Lx.runN
  rw [dif_neg h]
theorem numberr_calls (s:ByteArray) (a:Nat) (w:World) (hs:s.size ≤ 1000000) (ha:a < s.size) :
    Calls Tryz.prog 126 #[.string s,.int .i64 a] w fun e w'=>e=.returned (.int .i64 (Lx.runN s (a + 1):Nat))∧w=w':=by
  go_enter Tryz.func126,Tryz.ntmps126
  go_wp2_with fail
  go_loopg [5] (s.size - (a + 1)) (fun kq v5 w' => ∃ (n:Nat),v5=.int .i64 n∧Aside0 (n ≤ s.size∧a < n∧Lx.runN s n=Lx.runN s (a + 1)∧kq=s.size - n)∧w'=w)
  case atStart=>exact ⟨a + 1,by go_num,⟨by omega,by omega,rfl,rfl⟩,rfl⟩
  case round =>
    obtain ⟨n,rfl,HA,rfl⟩:=hrel
    have hn:=HA.out.1
    have hn1:=HA.out.2.1
    obtain ⟨p,hp⟩:∃ p:Nat,p=n - 1:=⟨_,rfl⟩
    have hw1:IntKind.i64.wrap ((n:Int) - 1)=(p:Int):=by rw [IntWalk.i64_in _ (by omega)];omega
    by_cases hl:n < s.size
    · have hld:decide ((n:Int) < s.size)=true:=by simpa using hl
      have hpl:p < s.size:=by omega
      have hx:=runN_at s n hl
      have HP:=mkA hp
      clear hp
      have hgx:=B_get s n hl
      have hgp:=B_get s p hpl
      by_cases hB:Lx.B s n=43
      · have hl1:Lx.isL 43=false:=rfl
        have hl2:Lx.isD 43=false:=rfl
        cases h6:(Lx.B s p == 101)
        · cases h7:(Lx.B s p == 69)
          · have h6':=beq_eq_false_iff_ne.mp h6;have h7':=beq_eq_false_iff_ne.mp h7
            have A:=mkA (And.intro h6' h7');clear h6' h7'
            have hc:contR (Lx.B s n) (Lx.B s (n - 1))=false:=by unfold contR;rw [← HP.out];simp [hB,hl1,hl2,A.out.1,A.out.2]
            rw [hc,if_neg Bool.false_ne_true] at hx
            have X:=mkA hx
            clear hx hc
            go_wp2_with (first | (go_at_call 123;(with_reducible refine (letter_calls _ _).mono ?_);rintro e w' ⟨rfl,rfl⟩) | (go_at_call 125;(with_reducible refine (digit_calls _ _).mono ?_);rintro e w' ⟨rfl,rfl⟩))
            go_ret
            exact ⟨by rw [← HA.out.2.2.1,X.out];simp,rfl⟩
          · have h7':=beq_iff_eq.mp h7
            have A:=mkA h7';clear h7'
            have hc:contR (Lx.B s n) (Lx.B s (n - 1))=true:=by unfold contR;rw [← HP.out];simp [hB,hl1,hl2,A.out]
            rw [hc,if_pos rfl] at hx
            have X:=mkA hx
            clear hx hc
            go_wp2_with (first | (go_at_call 123;(with_reducible refine (letter_calls _ _).mono ?_);rintro e w' ⟨rfl,rfl⟩) | (go_at_call 125;(with_reducible refine (digit_calls _ _).mono ?_);rintro e w' ⟨rfl,rfl⟩))
            go_roundg (s.size - (n + 1))
            case measure=>have:=HA.out;omega
            case rel=>exact ⟨n + 1,by go_num,⟨by omega,by omega,by rw [← X.out];exact HA.out.2.2.1,rfl⟩,rfl⟩
        · have h6':=beq_iff_eq.mp h6
          have A:=mkA h6';clear h6'
          have hc:contR (Lx.B s n) (Lx.B s (n - 1))=true:=by unfold contR;rw [← HP.out];simp [hB,hl1,hl2,A.out]
          rw [hc,if_pos rfl] at hx
          have X:=mkA hx
          clear hx hc
          go_wp2_with (first | (go_at_call 123;(with_reducible refine (letter_calls _ _).mono ?_);rintro e w' ⟨rfl,rfl⟩) | (go_at_call 125;(with_reducible refine (digit_calls _ _).mono ?_);rintro e w' ⟨rfl,rfl⟩))
          go_roundg (s.size - (n + 1))
          case measure=>have:=HA.out;omega
          case rel=>exact ⟨n + 1,by go_num,⟨by omega,by omega,by rw [← X.out];exact HA.out.2.2.1,rfl⟩,rfl⟩
      by_cases hB2:Lx.B s n=45
      · clear hB
        have hB:=hB2
        clear hB2
        have hl1:Lx.isL 45=false:=rfl
        have hl2:Lx.isD 45=false:=rfl
        cases h6:(Lx.B s p == 101)
        · cases h7:(Lx.B s p == 69)
          · have h6':=beq_eq_false_iff_ne.mp h6;have h7':=beq_eq_false_iff_ne.mp h7
            have A:=mkA (And.intro h6' h7');clear h6' h7'
            have hc:contR (Lx.B s n) (Lx.B s (n - 1))=false:=by unfold contR;rw [← HP.out];simp [hB,hl1,hl2,A.out.1,A.out.2]
            rw [hc,if_neg Bool.false_ne_true] at hx
            have X:=mkA hx
            clear hx hc
            go_wp2_with (first | (go_at_call 123;(with_reducible refine (letter_calls _ _).mono ?_);rintro e w' ⟨rfl,rfl⟩) | (go_at_call 125;(with_reducible refine (digit_calls _ _).mono ?_);rintro e w' ⟨rfl,rfl⟩))
            go_ret
            exact ⟨by rw [← HA.out.2.2.1,X.out];simp,rfl⟩
          · have h7':=beq_iff_eq.mp h7
            have A:=mkA h7';clear h7'
            have hc:contR (Lx.B s n) (Lx.B s (n - 1))=true:=by unfold contR;rw [← HP.out];simp [hB,hl1,hl2,A.out]
            rw [hc,if_pos rfl] at hx
            have X:=mkA hx
            clear hx hc
            go_wp2_with (first | (go_at_call 123;(with_reducible refine (letter_calls _ _).mono ?_);rintro e w' ⟨rfl,rfl⟩) | (go_at_call 125;(with_reducible refine (digit_calls _ _).mono ?_);rintro e w' ⟨rfl,rfl⟩))
            go_roundg (s.size - (n + 1))
            case measure=>have:=HA.out;omega
            case rel=>exact ⟨n + 1,by go_num,⟨by omega,by omega,by rw [← X.out];exact HA.out.2.2.1,rfl⟩,rfl⟩
        · have h6':=beq_iff_eq.mp h6
          have A:=mkA h6';clear h6'
          have hc:contR (Lx.B s n) (Lx.B s (n - 1))=true:=by unfold contR;rw [← HP.out];simp [hB,hl1,hl2,A.out]
          rw [hc,if_pos rfl] at hx
          have X:=mkA hx
          clear hx hc
          go_wp2_with (first | (go_at_call 123;(with_reducible refine (letter_calls _ _).mono ?_);rintro e w' ⟨rfl,rfl⟩) | (go_at_call 125;(with_reducible refine (digit_calls _ _).mono ?_);rintro e w' ⟨rfl,rfl⟩))
          go_roundg (s.size - (n + 1))
          case measure=>have:=HA.out;omega
          case rel=>exact ⟨n + 1,by go_num,⟨by omega,by omega,by rw [← X.out];exact HA.out.2.2.1,rfl⟩,rfl⟩
      have h4:=beq_eq_false_iff_ne.mpr hB
      have h5:=beq_eq_false_iff_ne.mpr hB2
      have A1:=mkA (And.intro hB hB2)
      clear hB hB2
      cases h1:Lx.isL (Lx.B s n)
      · cases h2:Lx.isD (Lx.B s n)
        · cases h3:(Lx.B s n != 46)
          · have h3':=bne_eq_false_iff_eq.mp h3
            have A0:=mkA h3';clear h3'
            have hc:contR (Lx.B s n) (Lx.B s (n - 1))=true:=by unfold contR;rw [← HP.out];simp [A0.out]
            rw [hc,if_pos rfl] at hx
            have X:=mkA hx
            clear hx hc
            go_wp2_with (first | (go_at_call 123;(with_reducible refine (letter_calls _ _).mono ?_);rintro e w' ⟨rfl,rfl⟩) | (go_at_call 125;(with_reducible refine (digit_calls _ _).mono ?_);rintro e w' ⟨rfl,rfl⟩))
            go_roundg (s.size - (n + 1))
            case measure=>have:=HA.out;omega
            case rel=>exact ⟨n + 1,by go_num,⟨by omega,by omega,by rw [← X.out];exact HA.out.2.2.1,rfl⟩,rfl⟩
          · have h3':=bne_iff_ne.mp h3
            have A0:=mkA h3';clear h3'
            have hc:contR (Lx.B s n) (Lx.B s (n - 1))=false:=by unfold contR;rw [← HP.out];simp [h1,h2,A0.out,A1.out.1,A1.out.2]
            rw [hc,if_neg Bool.false_ne_true] at hx
            have X:=mkA hx
            clear hx hc
            go_wp2_with (first | (go_at_call 123;(with_reducible refine (letter_calls _ _).mono ?_);rintro e w' ⟨rfl,rfl⟩) | (go_at_call 125;(with_reducible refine (digit_calls _ _).mono ?_);rintro e w' ⟨rfl,rfl⟩))
            go_ret
            exact ⟨by rw [← HA.out.2.2.1,X.out];simp,rfl⟩
        · have hc:contR (Lx.B s n) (Lx.B s (n - 1))=true:=by unfold contR;rw [← HP.out];simp [h2]
          rw [hc,if_pos rfl] at hx
          have X:=mkA hx
          clear hx hc
          go_wp2_with (first | (go_at_call 123;(with_reducible refine (letter_calls _ _).mono ?_);rintro e w' ⟨rfl,rfl⟩) | (go_at_call 125;(with_reducible refine (digit_calls _ _).mono ?_);rintro e w' ⟨rfl,rfl⟩))
          go_roundg (s.size - (n + 1))
          case measure=>have:=HA.out;omega
          case rel=>exact ⟨n + 1,by go_num,⟨by omega,by omega,by rw [← X.out];exact HA.out.2.2.1,rfl⟩,rfl⟩
      · have hc:contR (Lx.B s n) (Lx.B s (n - 1))=true:=by unfold contR;rw [← HP.out];simp [h1]
        rw [hc,if_pos rfl] at hx
        have X:=mkA hx
        clear hx hc
        go_wp2_with (first | (go_at_call 123;(with_reducible refine (letter_calls _ _).mono ?_);rintro e w' ⟨rfl,rfl⟩) | (go_at_call 125;(with_reducible refine (digit_calls _ _).mono ?_);rintro e w' ⟨rfl,rfl⟩))
        go_roundg (s.size - (n + 1))
        case measure=>have:=HA.out;omega
        case rel=>exact ⟨n + 1,by go_num,⟨by omega,by omega,by rw [← X.out];exact HA.out.2.2.1,rfl⟩,rfl⟩
    · have hld:decide ((n:Int) < s.size)=false:=by simpa using Nat.le_of_not_lt hl
      have X:=mkA (runN_out s n hl)
      go_wp2_with fail
      go_ret
      exact ⟨by rw [← HA.out.2.2.1,X.out];simp,rfl⟩
end Go.Proofs.YtjnafjgonoficaaGreatDoor
