/-
  The reference's levels, plainly: which sign of a level comes, what an operator does; what expressions come to lies in range. No program in sight but for the operators' contracts.
  The reference's levels. Conditions: the reader's block is its own; what signs and tighter levels come to is known.
  The reference's evaluator, whole: eval 52, Eval 26. Conditions: numbers and names come to what is said.
  Numbers of expressions and of definitions, plainly: what the reference and the program compute is the same. No program in sight. Conditions: none.
-/
import Derived.Test.YtjnafjgonoficaaGreatDoorF13
set_option linter.unusedVariables false
set_option linter.unusedSimpArgs false
namespace Go.Proofs.YtjnafjgonoficaaGreatDoor
open Go.RowKit Go.Proofs.YtjnafjgonoficaaGreatDoorW.PrintWords
namespace Lx
def sg:Nat → List ByteArray
  | 0=>[⟨#[124,124]⟩]
  | 1=>[⟨#[38,38]⟩]
  | 2=>[⟨#[61,61]⟩,⟨#[33,61]⟩]
  | 3=>[⟨#[60]⟩,⟨#[60,61]⟩,⟨#[62]⟩,⟨#[62,61]⟩]
  | 4=>[⟨#[43]⟩,⟨#[45]⟩]
  | _=>[⟨#[42]⟩,⟨#[47]⟩,⟨#[37]⟩]
def sgBase:Nat → Nat
  | 0=>0
  | 1=>1
  | 2=>2
  | 3=>4
  | 4=>8
  | _=>10
theorem find_none {k:Nat} {S:ES} (hk:k < 6) (h:∀ (i:Nat) (g:ByteArray),(sg k)[i]? = some g → isS S g.toList=false):findOp (k + 1) S=none:=by
  have e:∀ l:List UInt8,(⟨l.toArray⟩:ByteArray).toList=l:=fun l=>by rw [ByteArray.toList_eq]
  match k,hk with
  | 0,_=>have h0:=h 0 _ rfl;rw [ByteArray.toList_eq] at h0;simp at h0;simp [findOp,findFrom,ops,h0]
  | 1,_=>have h0:=h 0 _ rfl;rw [ByteArray.toList_eq] at h0;simp at h0;simp [findOp,findFrom,ops,h0]
  | 2,_=>have h0:=h 0 _ rfl;have h1:=h 1 _ rfl;rw [ByteArray.toList_eq] at h0 h1;simp at h0 h1;simp [findOp,findFrom,ops,h0,h1]
  | 3,_=>have h0:=h 0 _ rfl;have h1:=h 1 _ rfl;have h2:=h 2 _ rfl;have h3:=h 3 _ rfl;rw [ByteArray.toList_eq] at h0 h1 h2 h3;simp at h0 h1 h2 h3;simp [findOp,findFrom,ops,h0,h1,h2,h3]
  | 4,_=>have h0:=h 0 _ rfl;have h1:=h 1 _ rfl;rw [ByteArray.toList_eq] at h0 h1;simp at h0 h1;simp [findOp,findFrom,ops,h0,h1]
  | 5,_=>have h0:=h 0 _ rfl;have h1:=h 1 _ rfl;have h2:=h 2 _ rfl;rw [ByteArray.toList_eq] at h0 h1 h2;simp at h0 h1 h2;simp [findOp,findFrom,ops,h0,h1,h2]
theorem find_some {k i:Nat} {g:ByteArray} {S:ES} (hk:k < 6) (hg:(sg k)[i]? = some g) (hs:isS S g.toList=true) (h:∀ (j:Nat) (g':ByteArray),j < i → (sg k)[j]? = some g' → isS S g'.toList=false):findOp (k + 1) S=some (sgBase k + i):=by
  match k,hk,i,hg,h with
  | 0,_,0,hg,h=>cases hg;rw [ByteArray.toList_eq] at hs;simp at hs;simp [findOp,findFrom,ops,hs,sgBase]
  | 1,_,0,hg,h=>cases hg;rw [ByteArray.toList_eq] at hs;simp at hs;simp [findOp,findFrom,ops,hs,sgBase]
  | 2,_,0,hg,h=>cases hg;rw [ByteArray.toList_eq] at hs;simp at hs;simp [findOp,findFrom,ops,hs,sgBase]
  | 2,_,1,hg,h=>cases hg;have h0:=h 0 _ (by omega) rfl;rw [ByteArray.toList_eq] at hs h0;simp at hs h0;simp [findOp,findFrom,ops,hs,sgBase,h0]
  | 3,_,0,hg,h=>cases hg;rw [ByteArray.toList_eq] at hs;simp at hs;simp [findOp,findFrom,ops,hs,sgBase]
  | 3,_,1,hg,h=>cases hg;have h0:=h 0 _ (by omega) rfl;rw [ByteArray.toList_eq] at hs h0;simp at hs h0;simp [findOp,findFrom,ops,hs,sgBase,h0]
  | 3,_,2,hg,h=>cases hg;have h0:=h 0 _ (by omega) rfl;have h1:=h 1 _ (by omega) rfl;rw [ByteArray.toList_eq] at hs h0 h1;simp at hs h0 h1;simp [findOp,findFrom,ops,hs,sgBase,h0,h1]
  | 3,_,3,hg,h=>cases hg;have h0:=h 0 _ (by omega) rfl;have h1:=h 1 _ (by omega) rfl;have h2:=h 2 _ (by omega) rfl;rw [ByteArray.toList_eq] at hs h0 h1 h2;simp at hs h0 h1 h2;simp [findOp,findFrom,ops,hs,sgBase,h0,h1,h2]
  | 4,_,0,hg,h=>cases hg;rw [ByteArray.toList_eq] at hs;simp at hs;simp [findOp,findFrom,ops,hs,sgBase]
  | 4,_,1,hg,h=>cases hg;have h0:=h 0 _ (by omega) rfl;rw [ByteArray.toList_eq] at hs h0;simp at hs h0;simp [findOp,findFrom,ops,hs,sgBase,h0]
  | 5,_,0,hg,h=>cases hg;rw [ByteArray.toList_eq] at hs;simp at hs;simp [findOp,findFrom,ops,hs,sgBase]
  | 5,_,1,hg,h=>cases hg;have h0:=h 0 _ (by omega) rfl;rw [ByteArray.toList_eq] at hs h0;simp at hs h0;simp [findOp,findFrom,ops,hs,sgBase,h0]
  | 5,_,2,hg,h=>cases hg;have h0:=h 0 _ (by omega) rfl;have h1:=h 1 _ (by omega) rfl;rw [ByteArray.toList_eq] at hs h0 h1;simp at hs h0 h1;simp [findOp,findFrom,ops,hs,sgBase,h0,h1]
  | 0,_,i + 1,hg,h=>simp [sg] at hg
  | 1,_,i + 1,hg,h=>simp [sg] at hg
  | 2,_,i + 2,hg,h=>simp [sg] at hg
  | 3,_,i + 4,hg,h=>simp [sg] at hg
  | 4,_,i + 2,hg,h=>simp [sg] at hg
  | 5,_,i + 3,hg,h=>simp [sg] at hg
theorem sg_ne {k i:Nat} {g:ByteArray} (hg:(sg k)[i]? = some g):g.toList.isEmpty=false:=by
  match k,i,hg with
  | 0,0,hg | 1,0,hg | 2,0,hg | 2,1,hg | 3,0,hg | 3,1,hg | 3,2,hg | 3,3,hg | 4,0,hg | 4,1,hg | k + 5,0,hg | k + 5,1,hg | k + 5,2,hg=>cases hg;rw [ByteArray.toList_eq];rfl
  | 0,i + 1,hg=>simp [sg] at hg
  | 1,i + 1,hg=>simp [sg] at hg
  | 2,i + 2,hg=>simp [sg] at hg
  | 3,i + 4,hg=>simp [sg] at hg
  | 4,i + 2,hg=>simp [sg] at hg
  | k + 5,i + 3,hg=>simp [sg] at hg
theorem bit_in (b:Bool):InI (bit b):=by cases b <;> (unfold InI bit;omega)
theorem w64_in (a:Int):InI (w64 a):=by unfold InI w64 wrap64;omega
theorem opDo_in (j:Nat) (a b:Int):InI (opDo j a b):=by
  unfold opDo
  split <;> first | exact bit_in _ | exact w64_in _ | skip
  unfold quo
  split
  · unfold InI;omega
  · exact w64_in _
theorem signed_in:∀ (l:List ByteArray) (v:Int),InI v → InI (signed l v)
  | [],v,h=>h
  | g :: l,v,h=>by
    show InI (signed1 g (signed l v))
    have:=signed_in l v h
    unfold signed1
    split
    · exact bit_in _
    · split
      · exact w64_in _
      · exact this
theorem all_in {num val:ByteArray → Int × Bool} (hN:∀ b,InI (num b).1) (hV:∀ b,InI (val b).1):∀ m:Nat,
    (∀ lv S v T,binF num val m lv S=some (v,T) → InI v)∧(∀ lv v S v' T,InI v → loopF num val m lv v S=some (v',T) → InI v') ∧
    (∀ S v T,oneF num val m S=some (v,T) → InI v)∧(∀ S v T,operF num val m S=some (v,T) → InI v):=by
  intro m
  induction m with
  | zero =>
    refine ⟨fun lv S v T h => ?_,fun lv v S v' T hv h => ?_,fun S v T h => ?_,fun S v T h => ?_⟩
    · unfold binF at h;cases h
    · unfold loopF at h;cases h
    · unfold oneF at h;cases h
    · unfold operF at h;cases h
  | succ m ih =>
    obtain ⟨i1,i2,i3,i4⟩:=ih
    have z0:InI 0:=by unfold InI;omega
    refine ⟨fun lv S v T h => ?_,fun lv v S v' T hv h => ?_,fun S v T h => ?_,fun S v T h => ?_⟩
    · unfold binF at h
      split at h
      · exact i3 _ _ _ h
      · split at h
        · cases h
        · rename_i e
          exact i2 _ _ _ _ _ (i1 _ _ _ _ e) h
    · unfold loopF at h
      split at h
      · cases h;exact hv
      · split at h
        · cases h;exact hv
        · split at h
          · cases h
          · exact i2 _ _ _ _ _ (opDo_in _ _ _) h
    · unfold oneF at h
      split at h
      · cases h
      · rename_i e
        cases h
        exact signed_in _ _ (i4 _ _ _ e)
    · unfold operF at h
      split at h
      · cases h;exact z0
      · split at h
        · cases h;exact z0
        · split at h
          · split at h
            · cases h
            · rename_i e
              split at h
              · cases h;exact i1 _ _ _ _ e
              · cases h;exact z0
          · split at h
            · split at h <;> cases h
              · exact hN _
              · exact z0
            · split at h
              · have e:=Option.some.inj h
                have:v=(definedE val S.tl).1:=by rw [e]
                rw [this]
                unfold definedE
                obtain ⟨U,hU⟩:∃ U,(if isS S.tl [40]=true then S.tl.tl else S.tl)=U:=⟨_,rfl⟩
                rw [hU]
                dsimp only
                cases hl:U.l with
                | nil=>exact z0
                | cons t r =>
                  dsimp only
                  by_cases hk:t.k=1
                  · rw [if_pos hk]
                    split
                    · exact z0
                    · exact bit_in _
                  · rw [if_neg hk]
                    exact z0
              · split at h <;> cases h
                · exact hV _
                · exact z0
end Lx
theorem comp_at {k i:Nat} {g:ByteArray} (hk:k < 6) (hg:(Lx.sg k)[i]? = some g) (a b:Int) (ha:InI a) (w:World):Calls Tryz.prog 104 #[.string g,.int .i64 a,.int .i64 b] w fun e w'=>e=.returned (.int .i64 (Lx.opDo (Lx.sgBase k + i) a b))∧w=w':=by
  match k,hk,i,hg with
  | 0,_,0,hg=>cases hg;exact comp_or a b w
  | 1,_,0,hg=>cases hg;exact comp_and a b w
  | 2,_,0,hg=>cases hg;exact comp_eq a b w
  | 2,_,1,hg=>cases hg;exact comp_ne a b w
  | 3,_,0,hg=>cases hg;exact comp_lt a b w
  | 3,_,1,hg=>cases hg;exact comp_le a b w
  | 3,_,2,hg=>cases hg;exact comp_gt a b w
  | 3,_,3,hg=>cases hg;exact comp_ge a b w
  | 4,_,0,hg=>cases hg;exact comp_add a b w
  | 4,_,1,hg=>cases hg;exact comp_sub a b w
  | 5,_,0,hg=>cases hg;exact comp_mul a b w
  | 5,_,1,hg=>cases hg;exact comp_quo a b w
  | 5,_,2,hg=>cases hg;exact comp_rem a b ha w
  | 0,_,i + 1,hg=>simp [Lx.sg] at hg
  | 1,_,i + 1,hg=>simp [Lx.sg] at hg
  | 2,_,i + 2,hg=>simp [Lx.sg] at hg
  | 3,_,i + 4,hg=>simp [Lx.sg] at hg
  | 4,_,i + 2,hg=>simp [Lx.sg] at hg
  | 5,_,i + 3,hg=>simp [Lx.sg] at hg
theorem w7_heap (w:World):(World.alloc (World.alloc (World.alloc (World.alloc (World.alloc (World.alloc (World.alloc w (Obj.cells #[Value.string { data:=#[124,124] }] 9)) (Obj.cells #[Value.string { data:=#[38,38] }] 9)) (Obj.cells #[Value.string { data:=#[61,61] },Value.string { data:=#[33,61] }] 9)) (Obj.cells #[Value.string { data:=#[60] },Value.string { data:=#[60,61] },Value.string { data:=#[62] },Value.string { data:=#[62,61] }] 9)) (Obj.cells #[Value.string { data:=#[43] },Value.string { data:=#[45] }] 9)) (Obj.cells #[Value.string { data:=#[42] },Value.string { data:=#[47] },Value.string { data:=#[37] }] 9)) (Obj.cells #[Value.slice (some { block:=(World.heap w).size,off:=0 }) 1 1,Value.slice (some { block:=(World.heap w).size + 1,off:=0 }) 1 1,Value.slice (some { block:=(World.heap w).size + 1 + 1,off:=0 }) 2 2,Value.slice (some { block:=(World.heap w).size + 1 + 1 + 1,off:=0 }) 4 4,Value.slice (some { block:=(World.heap w).size + 1 + 1 + 1 + 1,off:=0 }) 2 2,Value.slice (some { block:=(World.heap w).size + 1 + 1 + 1 + 1 + 1,off:=0 }) 3 3] 62)).heap=w.heap ++ #[(Obj.cells #[Value.string { data:=#[124,124] }] 9),(Obj.cells #[Value.string { data:=#[38,38] }] 9),(Obj.cells #[Value.string { data:=#[61,61] },Value.string { data:=#[33,61] }] 9),(Obj.cells #[Value.string { data:=#[60] },Value.string { data:=#[60,61] },Value.string { data:=#[62] },Value.string { data:=#[62,61] }] 9),(Obj.cells #[Value.string { data:=#[43] },Value.string { data:=#[45] }] 9),(Obj.cells #[Value.string { data:=#[42] },Value.string { data:=#[47] },Value.string { data:=#[37] }] 9),(Obj.cells #[Value.slice (some { block:=(World.heap w).size,off:=0 }) 1 1,Value.slice (some { block:=(World.heap w).size + 1,off:=0 }) 1 1,Value.slice (some { block:=(World.heap w).size + 1 + 1,off:=0 }) 2 2,Value.slice (some { block:=(World.heap w).size + 1 + 1 + 1,off:=0 }) 4 4,Value.slice (some { block:=(World.heap w).size + 1 + 1 + 1 + 1,off:=0 }) 2 2,Value.slice (some { block:=(World.heap w).size + 1 + 1 + 1 + 1 + 1,off:=0 }) 3 3] 62)]:=by
  apply Array.ext'
  simp only [World.alloc,Array.toList_push,Array.toList_append,List.append_assoc]
  rfl
theorem w7_grown (w:World):w.grownBy (World.alloc (World.alloc (World.alloc (World.alloc (World.alloc (World.alloc (World.alloc w (Obj.cells #[Value.string { data:=#[124,124] }] 9)) (Obj.cells #[Value.string { data:=#[38,38] }] 9)) (Obj.cells #[Value.string { data:=#[61,61] },Value.string { data:=#[33,61] }] 9)) (Obj.cells #[Value.string { data:=#[60] },Value.string { data:=#[60,61] },Value.string { data:=#[62] },Value.string { data:=#[62,61] }] 9)) (Obj.cells #[Value.string { data:=#[43] },Value.string { data:=#[45] }] 9)) (Obj.cells #[Value.string { data:=#[42] },Value.string { data:=#[47] },Value.string { data:=#[37] }] 9)) (Obj.cells #[Value.slice (some { block:=(World.heap w).size,off:=0 }) 1 1,Value.slice (some { block:=(World.heap w).size + 1,off:=0 }) 1 1,Value.slice (some { block:=(World.heap w).size + 1 + 1,off:=0 }) 2 2,Value.slice (some { block:=(World.heap w).size + 1 + 1 + 1,off:=0 }) 4 4,Value.slice (some { block:=(World.heap w).size + 1 + 1 + 1 + 1,off:=0 }) 2 2,Value.slice (some { block:=(World.heap w).size + 1 + 1 + 1 + 1 + 1,off:=0 }) 3 3] 62)) none:=by
  repeat (first | exact World.grownBy.refl _ _ | (refine grown_trans ?_ (World.grownBy_alloc _ _ _)))
def Sgs (w1:World) (wb sb:Nat):Prop:=∀ k:Nat,k < 6 → w1.cell? ⟨sb,k,none⟩=some (.slice (some ⟨wb + k,0,none⟩) (Lx.sg k).length (Lx.sg k).length)∧∀ (i:Nat) (g:ByteArray),(Lx.sg k)[i]? = some g → w1.cell? ⟨wb + k,i,none⟩=some (.string g)
theorem w7_block (w:World) (j:Nat) (o:Obj) (h:#[(Obj.cells #[Value.string { data:=#[124,124] }] 9),(Obj.cells #[Value.string { data:=#[38,38] }] 9),(Obj.cells #[Value.string { data:=#[61,61] },Value.string { data:=#[33,61] }] 9),(Obj.cells #[Value.string { data:=#[60] },Value.string { data:=#[60,61] },Value.string { data:=#[62] },Value.string { data:=#[62,61] }] 9),(Obj.cells #[Value.string { data:=#[43] },Value.string { data:=#[45] }] 9),(Obj.cells #[Value.string { data:=#[42] },Value.string { data:=#[47] },Value.string { data:=#[37] }] 9),(Obj.cells #[Value.slice (some { block:=(World.heap w).size,off:=0 }) 1 1,Value.slice (some { block:=(World.heap w).size + 1,off:=0 }) 1 1,Value.slice (some { block:=(World.heap w).size + 1 + 1,off:=0 }) 2 2,Value.slice (some { block:=(World.heap w).size + 1 + 1 + 1,off:=0 }) 4 4,Value.slice (some { block:=(World.heap w).size + 1 + 1 + 1 + 1,off:=0 }) 2 2,Value.slice (some { block:=(World.heap w).size + 1 + 1 + 1 + 1 + 1,off:=0 }) 3 3] 62)][j]? = some o):(World.alloc (World.alloc (World.alloc (World.alloc (World.alloc (World.alloc (World.alloc w (Obj.cells #[Value.string { data:=#[124,124] }] 9)) (Obj.cells #[Value.string { data:=#[38,38] }] 9)) (Obj.cells #[Value.string { data:=#[61,61] },Value.string { data:=#[33,61] }] 9)) (Obj.cells #[Value.string { data:=#[60] },Value.string { data:=#[60,61] },Value.string { data:=#[62] },Value.string { data:=#[62,61] }] 9)) (Obj.cells #[Value.string { data:=#[43] },Value.string { data:=#[45] }] 9)) (Obj.cells #[Value.string { data:=#[42] },Value.string { data:=#[47] },Value.string { data:=#[37] }] 9)) (Obj.cells #[Value.slice (some { block:=(World.heap w).size,off:=0 }) 1 1,Value.slice (some { block:=(World.heap w).size + 1,off:=0 }) 1 1,Value.slice (some { block:=(World.heap w).size + 1 + 1,off:=0 }) 2 2,Value.slice (some { block:=(World.heap w).size + 1 + 1 + 1,off:=0 }) 4 4,Value.slice (some { block:=(World.heap w).size + 1 + 1 + 1 + 1,off:=0 }) 2 2,Value.slice (some { block:=(World.heap w).size + 1 + 1 + 1 + 1 + 1,off:=0 }) 3 3] 62)).heap[w.heap.size + j]? = some o:=by
  rw [w7_heap,Array.getElem?_append_right (Nat.le_add_right _ _),Nat.add_sub_cancel_left]
  exact h
theorem w7_sgs (w:World):Sgs (World.alloc (World.alloc (World.alloc (World.alloc (World.alloc (World.alloc (World.alloc w (Obj.cells #[Value.string { data:=#[124,124] }] 9)) (Obj.cells #[Value.string { data:=#[38,38] }] 9)) (Obj.cells #[Value.string { data:=#[61,61] },Value.string { data:=#[33,61] }] 9)) (Obj.cells #[Value.string { data:=#[60] },Value.string { data:=#[60,61] },Value.string { data:=#[62] },Value.string { data:=#[62,61] }] 9)) (Obj.cells #[Value.string { data:=#[43] },Value.string { data:=#[45] }] 9)) (Obj.cells #[Value.string { data:=#[42] },Value.string { data:=#[47] },Value.string { data:=#[37] }] 9)) (Obj.cells #[Value.slice (some { block:=(World.heap w).size,off:=0 }) 1 1,Value.slice (some { block:=(World.heap w).size + 1,off:=0 }) 1 1,Value.slice (some { block:=(World.heap w).size + 1 + 1,off:=0 }) 2 2,Value.slice (some { block:=(World.heap w).size + 1 + 1 + 1,off:=0 }) 4 4,Value.slice (some { block:=(World.heap w).size + 1 + 1 + 1 + 1,off:=0 }) 2 2,Value.slice (some { block:=(World.heap w).size + 1 + 1 + 1 + 1 + 1,off:=0 }) 3 3] 62)) w.heap.size (w.heap.size + 6):=by
  intro k hk
  have b6:=w7_block w 6 _ rfl
  match k,hk with
  | 0,_ => 
    refine ⟨by rw [blk_cell b6];rfl,fun i g hg => ?_⟩
    rw [blk_cell (w7_block w 0 _ rfl)]
    match i,hg with
    | 0,hg=>cases hg;rfl
    | i + 1,hg=>simp [Lx.sg] at hg
  | 1,_ =>
    refine ⟨by rw [blk_cell b6];rfl,fun i g hg => ?_⟩
    rw [blk_cell (w7_block w 1 _ rfl)]
    match i,hg with
    | 0,hg=>cases hg;rfl
    | i + 1,hg=>simp [Lx.sg] at hg
  | 2,_ =>
    refine ⟨by rw [blk_cell b6];rfl,fun i g hg => ?_⟩
    rw [blk_cell (w7_block w 2 _ rfl)]
    match i,hg with
    | 0,hg=>cases hg;rfl
    | 1,hg=>cases hg;rfl
    | i + 2,hg=>simp [Lx.sg] at hg
  | 3,_ =>
    refine ⟨by rw [blk_cell b6];rfl,fun i g hg => ?_⟩
    rw [blk_cell (w7_block w 3 _ rfl)]
    match i,hg with
    | 0,hg=>cases hg;rfl
    | 1,hg=>cases hg;rfl
    | 2,hg=>cases hg;rfl
    | 3,hg=>cases hg;rfl
    | i + 4,hg=>simp [Lx.sg] at hg
  | 4,_ =>
    refine ⟨by rw [blk_cell b6];rfl,fun i g hg => ?_⟩
    rw [blk_cell (w7_block w 4 _ rfl)]
    match i,hg with
    | 0,hg=>cases hg;rfl
    | 1,hg=>cases hg;rfl
    | i + 2,hg=>simp [Lx.sg] at hg
  | 5,_ =>
    refine ⟨by rw [blk_cell b6];rfl,fun i g hg => ?_⟩
    rw [blk_cell (w7_block w 5 _ rfl)]
    match i,hg with
    | 0,hg=>cases hg;rfl
    | 1,hg=>cases hg;rfl
    | 2,hg=>cases hg;rfl
    | i + 3,hg=>simp [Lx.sg] at hg
theorem w7_old (w:World) {a:Addr} {v:Value} (h:w.cell? a=some v):(World.alloc (World.alloc (World.alloc (World.alloc (World.alloc (World.alloc (World.alloc w (Obj.cells #[Value.string { data:=#[124,124] }] 9)) (Obj.cells #[Value.string { data:=#[38,38] }] 9)) (Obj.cells #[Value.string { data:=#[61,61] },Value.string { data:=#[33,61] }] 9)) (Obj.cells #[Value.string { data:=#[60] },Value.string { data:=#[60,61] },Value.string { data:=#[62] },Value.string { data:=#[62,61] }] 9)) (Obj.cells #[Value.string { data:=#[43] },Value.string { data:=#[45] }] 9)) (Obj.cells #[Value.string { data:=#[42] },Value.string { data:=#[47] },Value.string { data:=#[37] }] 9)) (Obj.cells #[Value.slice (some { block:=(World.heap w).size,off:=0 }) 1 1,Value.slice (some { block:=(World.heap w).size + 1,off:=0 }) 1 1,Value.slice (some { block:=(World.heap w).size + 1 + 1,off:=0 }) 2 2,Value.slice (some { block:=(World.heap w).size + 1 + 1 + 1,off:=0 }) 4 4,Value.slice (some { block:=(World.heap w).size + 1 + 1 + 1 + 1,off:=0 }) 2 2,Value.slice (some { block:=(World.heap w).size + 1 + 1 + 1 + 1 + 1,off:=0 }) 3 3] 62)).cell? a=some v:=(w7_grown w).cell h (by simp)
theorem Sgs.grown {w w':World} {wb sb x:Nat} (h:Sgs w wb sb) (hx:x < wb) (hs:x < sb) (hg:w.grownBy w' (some x)):Sgs w' wb sb:=by
  intro k hk
  obtain ⟨h1,h2⟩:=h k hk
  exact ⟨hg.cell h1 (by simp;omega),fun i g e=>hg.cell (h2 i g e) (by simp;omega)⟩
theorem sg_len (k:Nat):(Lx.sg k).length ≤ 4:=by
  unfold Lx.sg
  split <;> simp
theorem loop_bad {num val:ByteArray → Int × Bool} {m lv:Nat} {v1 v:Int} {T1 T:Lx.ES} (hb:T1.bad=true) (h:Lx.loopF num val m lv v1 T1=some (v,T)):T.bad=true:=by
  cases m with
  | zero=>unfold Lx.loopF at h;cases h
  | succ m=>unfold Lx.loopF at h;rw [if_pos hb] at h;cases h;exact hb
set_option maxRecDepth 100000 in
set_option maxHeartbeats 8000000 in
theorem level_step {num val:ByteArray → Int × Bool} {w0:World} {A:Option Addr} {n c:Nat} {dv:Value} {L:List Lx.Tok} (hn5:n ≤ 100000) (hNI:∀ b,InI (num b).1) (hVI:∀ b,InI (val b).1) (m:Nat) (IHu:∀ k,k < m → UnC num val w0 A n c dv L k) (IH:∀ k,k < m → LvC num val w0 A n c dv L k):LvC num val w0 A n c dv L m:=by
  intro k S T v w hk6 hf hb h
  cases m with
  | zero=>unfold Lx.binF at hf;cases hf
  | succ m =>
  unfold Lx.binF at hf
  have HR:=mkA h
  obtain ⟨-,i,hi,hd,hbk,hw⟩:=h
  rw [hb] at hbk
  have hxl:=blk_lt hbk
  have y2:w.cell? ⟨w0.heap.size,2,none⟩=some (.bool false):=by rw [blk_cell hbk];rfl
  have HB:=mkA hb
  have HIU:=mkA IHu
  have HIL:=mkA IH
  clear hbk hw hd hb IHu IH hi i
  have hg7:=w7_grown w
  have hr7:=HR.out.grown hg7
  have y27:=w7_old w y2
  by_cases hk:k=6
  · subst hk
    rw [if_pos rfl] at hf
    have hu:=HIU.out m (Nat.lt_succ_self m) S T v (World.alloc (World.alloc (World.alloc (World.alloc (World.alloc (World.alloc (World.alloc w (Obj.cells #[Value.string { data:=#[124,124] }] 9)) (Obj.cells #[Value.string { data:=#[38,38] }] 9)) (Obj.cells #[Value.string { data:=#[61,61] },Value.string { data:=#[33,61] }] 9)) (Obj.cells #[Value.string { data:=#[60] },Value.string { data:=#[60,61] },Value.string { data:=#[62] },Value.string { data:=#[62,61] }] 9)) (Obj.cells #[Value.string { data:=#[43] },Value.string { data:=#[45] }] 9)) (Obj.cells #[Value.string { data:=#[42] },Value.string { data:=#[47] },Value.string { data:=#[37] }] 9)) (Obj.cells #[Value.slice (some { block:=(World.heap w).size,off:=0 }) 1 1,Value.slice (some { block:=(World.heap w).size + 1,off:=0 }) 1 1,Value.slice (some { block:=(World.heap w).size + 1 + 1,off:=0 }) 2 2,Value.slice (some { block:=(World.heap w).size + 1 + 1 + 1,off:=0 }) 4 4,Value.slice (some { block:=(World.heap w).size + 1 + 1 + 1 + 1,off:=0 }) 2 2,Value.slice (some { block:=(World.heap w).size + 1 + 1 + 1 + 1 + 1,off:=0 }) 3 3] 62)) hf HB.out hr7
    have HU:=mkA hu
    have HG7:=mkA hg7
    clear hf hu hg7 hr7 HIU HIL
    go_enter Tryz.func87,Tryz.ntmps87
    go_wp2_with (first | (go_at_call 102;(refine HU.out.mono ?_);rintro e w2 ⟨v',T',rfl,hrc,hg,hsm⟩;have HR2:=mkA hrc;have HG2:=mkA hg;have HSM:=mkA hsm;clear hrc hg hsm))
    go_ret
    exact ⟨_,T',rfl,HR2.out,grown_trans (grown_any HG7.out) HG2.out,HSM.out⟩
  · rw [if_neg (by omega)] at hf
    have hk6:k < 6:=by omega
    have hki:((k:Int) == 6)=false:=beq_eq_false_iff_ne.mpr (by omega)
    cases hbf:Lx.binF num val m (k + 1 + 1) S with
    | none=>rw [hbf] at hf;cases hf
    | some q =>
    obtain ⟨v1,T1⟩:=q
    rw [hbf] at hf
    dsimp only at hf
    have HF:=mkA hf
    have HBF:=mkA hbf
    have HLV:=mkA (show Calls Tryz.prog 87 #[.pointer (some ⟨w0.heap.size,0,none⟩),.int .i64 ((k:Int) + 1)] (World.alloc (World.alloc (World.alloc (World.alloc (World.alloc (World.alloc (World.alloc w (Obj.cells #[Value.string { data:=#[124,124] }] 9)) (Obj.cells #[Value.string { data:=#[38,38] }] 9)) (Obj.cells #[Value.string { data:=#[61,61] },Value.string { data:=#[33,61] }] 9)) (Obj.cells #[Value.string { data:=#[60] },Value.string { data:=#[60,61] },Value.string { data:=#[62] },Value.string { data:=#[62,61] }] 9)) (Obj.cells #[Value.string { data:=#[43] },Value.string { data:=#[45] }] 9)) (Obj.cells #[Value.string { data:=#[42] },Value.string { data:=#[47] },Value.string { data:=#[37] }] 9)) (Obj.cells #[Value.slice (some { block:=(World.heap w).size,off:=0 }) 1 1,Value.slice (some { block:=(World.heap w).size + 1,off:=0 }) 1 1,Value.slice (some { block:=(World.heap w).size + 1 + 1,off:=0 }) 2 2,Value.slice (some { block:=(World.heap w).size + 1 + 1 + 1,off:=0 }) 4 4,Value.slice (some { block:=(World.heap w).size + 1 + 1 + 1 + 1,off:=0 }) 2 2,Value.slice (some { block:=(World.heap w).size + 1 + 1 + 1 + 1 + 1,off:=0 }) 3 3] 62)) (PostR w0 A n c dv L (World.alloc (World.alloc (World.alloc (World.alloc (World.alloc (World.alloc (World.alloc w (Obj.cells #[Value.string { data:=#[124,124] }] 9)) (Obj.cells #[Value.string { data:=#[38,38] }] 9)) (Obj.cells #[Value.string { data:=#[61,61] },Value.string { data:=#[33,61] }] 9)) (Obj.cells #[Value.string { data:=#[60] },Value.string { data:=#[60,61] },Value.string { data:=#[62] },Value.string { data:=#[62,61] }] 9)) (Obj.cells #[Value.string { data:=#[43] },Value.string { data:=#[45] }] 9)) (Obj.cells #[Value.string { data:=#[42] },Value.string { data:=#[47] },Value.string { data:=#[37] }] 9)) (Obj.cells #[Value.slice (some { block:=(World.heap w).size,off:=0 }) 1 1,Value.slice (some { block:=(World.heap w).size + 1,off:=0 }) 1 1,Value.slice (some { block:=(World.heap w).size + 1 + 1,off:=0 }) 2 2,Value.slice (some { block:=(World.heap w).size + 1 + 1 + 1,off:=0 }) 4 4,Value.slice (some { block:=(World.heap w).size + 1 + 1 + 1 + 1,off:=0 }) 2 2,Value.slice (some { block:=(World.heap w).size + 1 + 1 + 1 + 1 + 1,off:=0 }) 3 3] 62)) v1 T1) from HIL.out m (Nat.lt_succ_self m) (k + 1) S T1 v1 (World.alloc (World.alloc (World.alloc (World.alloc (World.alloc (World.alloc (World.alloc w (Obj.cells #[Value.string { data:=#[124,124] }] 9)) (Obj.cells #[Value.string { data:=#[38,38] }] 9)) (Obj.cells #[Value.string { data:=#[61,61] },Value.string { data:=#[33,61] }] 9)) (Obj.cells #[Value.string { data:=#[60] },Value.string { data:=#[60,61] },Value.string { data:=#[62] },Value.string { data:=#[62,61] }] 9)) (Obj.cells #[Value.string { data:=#[43] },Value.string { data:=#[45] }] 9)) (Obj.cells #[Value.string { data:=#[42] },Value.string { data:=#[47] },Value.string { data:=#[37] }] 9)) (Obj.cells #[Value.slice (some { block:=(World.heap w).size,off:=0 }) 1 1,Value.slice (some { block:=(World.heap w).size + 1,off:=0 }) 1 1,Value.slice (some { block:=(World.heap w).size + 1 + 1,off:=0 }) 2 2,Value.slice (some { block:=(World.heap w).size + 1 + 1 + 1,off:=0 }) 4 4,Value.slice (some { block:=(World.heap w).size + 1 + 1 + 1 + 1,off:=0 }) 2 2,Value.slice (some { block:=(World.heap w).size + 1 + 1 + 1 + 1 + 1,off:=0 }) 3 3] 62)) (by omega) hbf HB.out hr7)
    have hsg:=w7_sgs w
    have HSG:=mkA hsg
    have HG7:=mkA hg7
    have HXL:=mkA hxl
    clear hf hbf hsg hg7 hr7 HIU hk
    go_enter Tryz.func87,Tryz.ntmps87
    go_wp2_with (first | (go_at_call 87;(refine HLV.out.mono ?_);rintro e w2 ⟨v1',T1',rfl,hrc,hg,hsm⟩;have HR2:=mkA hrc;have HG2:=mkA (grown_trans (grown_any HG7.out) hg);have HSM:=mkA hsm;have HSG2:=mkA (HSG.out.grown HXL.out (by have:=HXL.out;omega) hg);clear hrc hg hsm))
    obtain ⟨sb,hsb⟩:∃ sb,w.heap.size + 1 + 1 + 1 + 1 + 1 + 1=sb:=⟨_,rfl⟩
    obtain ⟨wb,hwb⟩:∃ wb,w.heap.size=wb:=⟨_,rfl⟩
    rw [hsb]
    have hsg2:=HSG2.out
    rw [show w.heap.size + 6=sb from hsb,hwb] at hsg2
    have HSG2:=mkA hsg2
    have hwx:w0.heap.size < wb:=by rw [← hwb];exact HXL.out
    have hsx:w0.heap.size < sb:=by have:=HXL.out;omega
    clear hsg2 HSG hsb hwb y2 y27 hxl HLV
    go_loopg [6] m (fun kq v6 W => ∃ (S':Lx.ES) (v':Int),v6=.int .i64 v'∧Aside0 ((S'.bad=true∧T.bad=true) ∨ (S'.bad=false∧kq ≤ m∧InI v'∧Lx.loopF num val kq (k + 1) v' S'=some (v,T)))∧Aside0 (RC w0 W A n c dv L S')∧Aside0 (w.grownBy W (some w0.heap.size))∧Aside0 (Sgs W wb sb))
    case atStart =>
      refine ⟨T1',v1',rfl,⟨?_⟩,HR2,HG2,HSG2⟩
      rcases HSM.out with ⟨e1,e2⟩ | ⟨e1,e2,e3⟩
      · exact .inl ⟨e2,loop_bad e1 HF.out⟩
      · rw [e2,e3]
        exact .inr ⟨e1,Nat.le_refl _,(Lx.all_in hNI hVI m).1 _ _ _ _ HBF.out,HF.out⟩
    case round =>
      obtain ⟨S1,u1,rfl,HJ,HR3,HG3,HSG3⟩:=hrel
      have hrc:=HR3.out
      obtain ⟨-,i3,hi3,hd3,hbk3,hw3⟩:=hrc
      rcases HJ.out with ⟨e1,e2⟩ | ⟨e1,e2,e3,e4⟩
      · rw [e1] at hbk3
        have hxl3:=blk_lt hbk3
        have z2:wr.cell? ⟨w0.heap.size,2,none⟩=some (.bool true):=by rw [blk_cell hbk3];rfl
        clear hbk3 hw3 hd3 hi3
        have E1:=mkA e1
        have E2:=mkA e2
        clear e1 e2
        go_wp2_with fail
        go_ret
        exact ⟨_,S1,rfl,HR3.out,HG3.out,.inl ⟨E2.out,E1.out⟩⟩
      · rw [e1] at hbk3
        have hxl3:=blk_lt hbk3
        have z2:wr.cell? ⟨w0.heap.size,2,none⟩=some (.bool false):=by rw [blk_cell hbk3];rfl
        obtain ⟨M,hM⟩:∃ M,gk=M:=⟨_,rfl⟩
        rw [hM] at e2 e4
        have HM:=mkA hM
        cases M with
        | zero=>unfold Lx.loopF at e4;cases e4
        | succ M =>
        unfold Lx.loopF at e4
        rw [if_neg (by rw [e1];simp)] at e4
        have E1:=mkA e1
        have E2:=mkA e2
        have E3:=mkA e3
        have E4:=mkA e4
        clear hM
        have HNC:=mkA (And.intro hn5 HXL.out)
        clear hbk3 hw3 hd3 hi3 e1 e2 e3 e4
        obtain ⟨nk,hnk⟩:∃ nk,(Lx.sg k).length=nk:=⟨_,rfl⟩
        have HNK:=mkA hnk
        have hnk4:nk ≤ 4:=by rw [← hnk];exact sg_len k
        go_wp2_with fail
        go_loopg [7,8] nk (fun kq v7 v8 W => ∃ (j:Nat) (o:ByteArray),v7=.string o∧v8=.int .i64 j∧Aside0 (j ≤ nk∧kq=nk - j)∧Aside0 ((o=⟨#[]⟩∧(∀ (j':Nat) (g:ByteArray),j' < j → (Lx.sg k)[j']? = some g → Lx.isS S1 g.toList=false)∧RC w0 W A n c dv L S1) ∨ (∃ j0:Nat,j=j0 + 1∧(Lx.sg k)[j0]? = some o∧Lx.isS S1 o.toList=true∧(∀ (j':Nat) (g:ByteArray),j' < j0 → (Lx.sg k)[j']? = some g → Lx.isS S1 g.toList=false)∧RC w0 W A n c dv L S1.tl))∧Aside0 (w.grownBy W (some w0.heap.size))∧Aside0 (Sgs W wb sb))
        case atStart=>exact ⟨0,⟨#[]⟩,rfl,rfl,⟨Nat.zero_le _,rfl⟩,⟨.inl ⟨rfl,fun j' g h=>absurd h (Nat.not_lt_zero _),HR3.out⟩⟩,HG3,HSG3⟩
        case round =>
          obtain ⟨j,o,rfl,rfl,HI,HO,HG4,HSG4⟩:=hrel
          have hj:=HI.out.1
          obtain ⟨sk,hsk⟩:=HSG4.out k hk6
          rw [HNK.out] at sk
          have hk0:(0:Int) ≤ (k:Int):=Int.natCast_nonneg _
          have hk6i:(k:Int) < 6:=by omega
          have hj0:(0:Int) ≤ (j:Int):=Int.natCast_nonneg _
          rcases HO.out with ⟨rfl,hno,hrc⟩ | ⟨j0,hjj,hg0,hs0,hno,hrc⟩
          · by_cases hlt:j < nk
            · obtain ⟨g,hg⟩:∃ g,(Lx.sg k)[j]? = some g:=⟨_,List.getElem?_eq_getElem (by have:=HNK.out;omega)⟩
              have sg1:=hsk j g hg
              have hjn:(j:Int) < (nk:Int):=by omega
              obtain ⟨b,hb4⟩:∃ b,Lx.isS S1 g.toList=b:=⟨_,rfl⟩
              have htk:=taker_calls w0 wr A n c dv L S1 g.toList g rfl HNC.out.1 hrc
              rw [show Lx.isR S1 g.toList=b by unfold Lx.isR;rw [E1.out,hb4];rfl] at htk
              have HTK:=mkA htk
              have HB4:=mkA hb4
              have HNO:=mkA hno
              have HGG:=mkA hg
              clear htk hb4 hno hrc hg hsk HO
              go_wp2_with (first | (go_at_call 103;(with_reducible refine HTK.out.mono ?_);rintro e w5 ⟨rfl,hrc,hg⟩;have HR5:=mkA hrc;have hsg5:=HSG4.out.grown hwx hsx hg;obtain ⟨sk,hsk⟩:=hsg5 k hk6;rw [HNK.out] at sk;have sg1:=hsk j g HGG.out;have HSG5:=mkA hsg5;have HG5:=mkA (grown_trans HG4.out hg);clear hrc hg hsk hsg5))
              · have hb5:b=true:=by first | assumption | (rename_i qq;simpa using qq)
                subst hb5
                go_roundg (nk - (j + 1))
                case measure=>have:=HI.out;omega
                case rel=>exact ⟨j + 1,g,rfl,by go_num,⟨by omega,rfl⟩,⟨.inr ⟨j,rfl,HGG.out,HB4.out,HNO.out,HR5.out⟩⟩,HG5,HSG5⟩
              · have hb5:b=false:=by first | assumption | (rename_i qq;simpa using qq)
                subst hb5
                go_roundg (nk - (j + 1))
                case measure=>have:=HI.out;omega
                case rel =>
                  refine ⟨j + 1,⟨#[]⟩,rfl,by go_num,⟨by omega,rfl⟩,⟨.inl ⟨rfl,fun j' g' h1 h2 => ?_,HR5.out⟩⟩,HG5,HSG5⟩
                  by_cases h3:j' < j
                  · exact HNO.out j' g' h3 h2
                  · obtain rfl:j'=j:=by omega
                    rw [HGG.out] at h2
                    cases h2
                    exact HB4.out
            · obtain rfl:j=nk:=by omega
              have hfn:=Lx.find_none (S:=S1) hk6 (fun i g h=>hno i g (by have:=(List.getElem?_eq_some_iff.mp h).1;rw [HNK.out] at this;exact this) h)
              have e4:=E4.out
              rw [hfn] at e4
              have E5:=mkA e4
              have HRC:=mkA hrc
              clear hfn e4 hno hrc hsk HO E4
              go_wp2_with fail
              go_ret
              refine ⟨_,S1,rfl,HRC.out,HG4.out,.inr ?_⟩
              cases E5.out
              exact ⟨E1.out,rfl,rfl⟩
          · have hfs:=Lx.find_some (S:=S1) hk6 hg0 hs0 hno
            have e4:=E4.out
            rw [hfs] at e4
            dsimp only at e4
            cases hbf:Lx.binF num val M (k + 1 + 1) S1.tl with
            | none=>rw [hbf] at e4;cases e4
            | some q =>
            obtain ⟨u2,T2⟩:=q
            rw [hbf] at e4
            dsimp only at e4
            have HLV:=mkA (show Calls Tryz.prog 87 #[.pointer (some ⟨w0.heap.size,0,none⟩),.int .i64 ((k:Int) + 1)] wr (PostR w0 A n c dv L wr u2 T2) from HIL.out M (by have:=E2.out;omega) (k + 1) S1.tl T2 u2 wr (by omega) hbf E1.out hrc)
            have HCP:=mkA (fun (b:Int) (W:World)=>comp_at hk6 hg0 u1 b E3.out W)
            have hoe:=Lx.sg_ne hg0
            have E5:=mkA e4
            have HJ0:=mkA hjj
            clear hfs e4 hno hrc hsk HO E4 hbf hg0 hs0 hjj
            have hji:decide (j < nk)=decide (j < nk):=rfl
            go_wp2_with (first | (go_at_call 87;(refine HLV.out.mono ?_);rintro e w6 ⟨u2',T2',rfl,hrc,hg,hsm⟩;have HR6:=mkA hrc;have HSM6:=mkA hsm;have HSG6:=mkA (HSG4.out.grown hwx hsx hg);have HG6:=mkA (grown_trans HG4.out hg);clear hrc hg hsm) | (go_at_call 104;(refine (HCP.out _ _).mono ?_);rintro e w7 ⟨rfl,rfl⟩))
            · go_roundg M
              case measure=>have:=HM.out;omega
              case rel =>
                refine ⟨T2',_,rfl,⟨?_⟩,HR6,HG6,HSG6⟩
                rcases HSM6.out with ⟨q1,q2⟩ | ⟨q1,q2,q3⟩
                · exact .inl ⟨q2,loop_bad q1 E5.out⟩
                · rw [q2,q3]
                  exact .inr ⟨q1,by have:=E2.out;omega,Lx.opDo_in _ _ _,E5.out⟩
            · go_roundg M
              case measure=>have:=HM.out;omega
              case rel =>
                refine ⟨T2',_,rfl,⟨?_⟩,HR6,HG6,HSG6⟩
                rcases HSM6.out with ⟨q1,q2⟩ | ⟨q1,q2,q3⟩
                · exact .inl ⟨q2,loop_bad q1 E5.out⟩
                · rw [q2,q3]
                  exact .inr ⟨q1,by have:=E2.out;omega,Lx.opDo_in _ _ _,E5.out⟩
theorem calc_all {num val:ByteArray → Int × Bool} {P:Lx.Tok → Prop} {w0:World} {A:Option Addr} {n c:Nat} {dv:Value} {L:List Lx.Tok} (hn5:n ≤ 100000) (hNI:∀ b,InI (num b).1) (hVI:∀ b,InI (val b).1) (hE:EnvR num val P w0 A n c dv L) (m:Nat) :
    UnC num val w0 A n c dv L m∧PrC num val w0 A n c dv L m∧LvC num val w0 A n c dv L m:=by
  induction m using Nat.strongRecOn with
  | ind m ih =>
    exact ⟨unary_step hn5 m (fun k hk=>(ih k hk).2.1),primary_step hn5 hE m (fun k hk=>(ih k hk).2.2),level_step hn5 hNI hVI m (fun k hk=>(ih k hk).1) (fun k hk=>(ih k hk).2.2)⟩
theorem same_end {T T':Lx.ES} {v v':Int} {R:Int × Bool} (hs:Same T T' v v') (hR:(if (T.bad || !T.l.isEmpty)=true then (0,false) else (v,true))=R) (b:Bool) (hb:(T'.bad || !T'.l.isEmpty)=b):(b=true → R=(0,false))∧(b=false → R=(v',true)):=by
  rcases hs with ⟨e1,e2⟩ | ⟨e1,rfl,rfl⟩
  · rw [e2,Bool.true_or] at hb
    rw [e1,Bool.true_or,if_pos rfl] at hR
    exact ⟨fun _=>hR.symm,fun h=>by rw [← hb] at h;cases h⟩
  · rw [hb] at hR
    cases b
    · exact ⟨(fun h=>by cases h),fun _=>hR.symm⟩
    · exact ⟨fun _=>hR.symm,(fun h=>by cases h)⟩
theorem end_at {i n:Nat} {L:List Lx.Tok} {l:List Lx.Tok} (hl:L.length=n) (hi:i ≤ n) (h:l=L.drop i):(!l.isEmpty)=decide ((i:Int) ≠ (n:Int)):=by
  subst h
  by_cases e:i=n
  · subst e
    rw [List.drop_eq_nil_of_le (by omega)]
    simp
  · rw [decide_eq_true (by omega)]
    cases hd:L.drop i with
    | nil=>exact absurd (nil_at hl hi hd) e
    | cons a b=>rfl
set_option maxRecDepth 100000 in
set_option maxHeartbeats 4000000 in
theorem refeval_calls {num val:ByteArray → Int × Bool} {P:Lx.Tok → Prop} (w:World) (A:Option Addr) (n c:Nat) (DA:Option Addr) (DN DC:Nat) (L:List Lx.Tok) (m:Nat) (R:Int × Bool) (hT:Tks w (.slice A n c) L) (hn5:n ≤ 100000) (hNI:∀ b,InI (num b).1) (hVI:∀ b,InI (val b).1) (hE:EnvR num val P w A n c (.slice DA DN DC) L) (hR:Lx.evalF num val m L=some R) :
    Calls Tryz.prog 52 #[.slice A n c,(.slice DA DN DC)] w fun e w'=>e=.returned (.tuple #[.int .i64 R.1,.bool R.2])∧Below w.heap.size w w':=by
  unfold Lx.evalF at hR
  cases hb:Lx.binF num val m 1 ⟨L,false⟩ with
  | none=>rw [hb] at hR;cases hR
  | some q =>
  obtain ⟨v,T⟩:=q
  rw [hb] at hR
  dsimp only at hR
  have hR:(if (T.bad || !T.l.isEmpty)=true then (0,false) else (v,true))=R:=by
    split <;> rename_i e
    · rw [if_pos e] at hR;exact Option.some.inj hR
    · rw [if_neg e] at hR;exact Option.some.inj hR
  have HR:=mkA hR
  have hrc:RC w (w.alloc (.cells #[.slice A n c,.int .i64 0,.bool false,(.slice DA DN DC)] 124)) A n c (.slice DA DN DC) L ⟨L,false⟩:=⟨hT,0,Nat.zero_le _,rfl,blk_new w _,(Below.refl _ _).alloc (Nat.le_refl _) _⟩
  have hlv:=(calc_all hn5 hNI hVI hE m).2.2 0 ⟨L,false⟩ T v _ (by omega) hb rfl hrc
  have HLV:=mkA (show Calls Tryz.prog 87 #[.pointer (some ⟨w.heap.size,0,none⟩),.int .i64 0] (w.alloc (.cells #[.slice A n c,.int .i64 0,.bool false,(.slice DA DN DC)] 124)) (PostR w A n c (.slice DA DN DC) L (w.alloc (.cells #[.slice A n c,.int .i64 0,.bool false,(.slice DA DN DC)] 124)) v T) from hlv)
  clear hlv hrc hb hR hE hT
  go_enter Tryz.func52,Tryz.ntmps52
  go_wp2_with (first | (go_at_call 87;(refine HLV.out.mono ?_);rintro e w2 ⟨v',T',rfl,hrc,hg,hsm⟩;have hln:=hrc.len;obtain ⟨-,i,hi,hd,hbk,hw⟩:=hrc;obtain ⟨b,hbb⟩:∃ b,(T'.bad || !T'.l.isEmpty)=b:=⟨_,rfl⟩;have hend:=same_end hsm HR.out b hbb;have hie:=end_at hln hi hd;obtain ⟨tb,htb⟩:∃ tb,T'.bad=tb:=⟨_,rfl⟩;rw [htb,hie] at hbb;rw [htb] at hbk;have hxl2:=blk_lt hbk;have y1:w2.cell? ⟨w.heap.size,1,none⟩=some (.int .i64 i):=(by rw [blk_cell hbk];rfl);have y2:w2.cell? ⟨w.heap.size,2,none⟩=some (.bool tb):=(by rw [blk_cell hbk];rfl);have HEND:=mkA hend;have HBB:=mkA hbb;have HW2:=mkA hw;clear hg hsm hend hbb htb hie hd hbk hw))
  · rename_i h1
    have e:=HEND.out.1 (by rw [← HBB.out,h1];rfl)
    subst e
    go_ret2
    exact ⟨rfl,HW2.out⟩
  · rename_i h1 h2
    have e:=HEND.out.1 (by rw [← HBB.out];simp at h1 h2 ⊢;exact .inr h2)
    subst e
    go_ret2
    exact ⟨rfl,HW2.out⟩
  · rename_i h1 h2
    have e:=HEND.out.2 (by rw [← HBB.out];simp at h1 h2 ⊢;exact ⟨h1,h2⟩)
    subst e
    go_ret2
    exact ⟨rfl,HW2.out⟩
namespace Lx
def dg (c:UInt8):Nat:=if 48 ≤ c.toNat∧c.toNat ≤ 57 then c.toNat - 48 else if 97 ≤ c.toNat∧c.toNat ≤ 102 then c.toNat - 87 else if 65 ≤ c.toNat∧c.toNat ≤ 70 then c.toNat - 55 else 99
def foldD (b v:Nat) (l:List UInt8):Nat:=l.foldl (fun v c=>v * b + dg c) v
def isUL (c:UInt8):Bool:=c.toNat == 117 || c.toNat == 108 || c.toNat == 85 || c.toNat == 76
def refRest (b:Nat) (l:List UInt8):Int × Bool:=(wrap64 (foldD b 0 (l.takeWhile fun c=>decide (dg c < b))),!(l.takeWhile fun c=>decide (dg c < b)).isEmpty && (l.dropWhile fun c=>decide (dg c < b)).all isUL)
def refNum:List UInt8 → Int × Bool
  | []=>(0,false)
  | c :: r=>if c.toNat=48 then (match r with
    | []=>refRest 8 (c :: r)
    | d :: q=>if d.toNat=120 ∨ d.toNat=88 then refRest 16 q else refRest 8 (c :: r)) else refRest 10 (c :: r)
def cutR (l:List UInt8):List UInt8:=(l.reverse.dropWhile isUL).reverse
def progRest (b:Nat) (l:List UInt8):Int × Bool:=if (l.all fun c=>decide (dg c < b))=true then (wrap64 (foldD b 0 l),!l.isEmpty) else (0,false)
def progCut:List UInt8 → Int × Bool
  | []=>progRest 10 []
  | c :: r=>match r with
    | []=>progRest 10 [c]
    | d :: q=>if c.toNat=48 then (if d.toNat=120 ∨ d.toNat=88 then progRest 16 q else progRest 8 (c :: d :: q)) else progRest 10 (c :: d :: q)
def progNum (l:List UInt8):Int × Bool:=progCut (cutR l)
theorem refNum_dec (x:UInt8) (r:List UInt8) (h:x.toNat ≠ 48):refNum (x :: r)=refRest 10 (x :: r):=by simp [refNum,h]
theorem refNum_one (x:UInt8) (h:x.toNat=48):refNum [x]=refRest 8 [x]:=by simp [refNum,h]
theorem refNum_hex (x y:UInt8) (r:List UInt8) (h:x.toNat=48) (hy:y.toNat=120 ∨ y.toNat=88):refNum (x :: y :: r)=refRest 16 r:=by simp [refNum,h,hy]
theorem refNum_oct (x y:UInt8) (r:List UInt8) (h:x.toNat=48) (hy:¬ (y.toNat=120 ∨ y.toNat=88)):refNum (x :: y :: r)=refRest 8 (x :: y :: r):=by simp [refNum,h,hy]
theorem ul_dg {c:UInt8} (h:isUL c=true):dg c=99:=by
  unfold isUL at h
  unfold dg
  simp only [Bool.or_eq_true,beq_iff_eq] at h
  rw [if_neg (by omega),if_neg (by omega),if_neg (by omega)]
theorem cut_eq (l:List UInt8):∃ u,l=cutR l ++ u∧u.all isUL=true∧∀ c,(cutR l).getLast? = some c → isUL c=false:=by
  refine ⟨(l.reverse.takeWhile isUL).reverse,?_,?_,?_⟩
  · unfold cutR
    rw [← List.reverse_append,List.takeWhile_append_dropWhile,List.reverse_reverse]
  · rw [List.all_reverse]
    exact List.all_takeWhile
  · intro c hc
    unfold cutR at hc
    rw [List.getLast?_reverse] at hc
    have:=List.head?_dropWhile_not isUL l.reverse
    rw [hc] at this
    simpa using this
theorem dropWhile_nil {α:Type} {p:α → Bool}:∀ {l:List α},l.dropWhile p=[] → ∀ x ∈ l,p x=true
  | [],_,x,hx=>by cases hx
  | a :: l,h,x,hx=>by
    rw [List.dropWhile_cons] at h
    split at h
    · rename_i ha
      rcases List.mem_cons.mp hx with rfl | hx
      · exact ha
      · exact dropWhile_nil h x hx
    · cases h
theorem rest_same (b:Nat) (hb:b ≤ 16) (c u:List UInt8) (hu:u.all isUL=true) (hl:∀ x,c.getLast? = some x → isUL x=false):(refRest b (c ++ u)).2=(progRest b c).2∧((progRest b c).2=true → (refRest b (c ++ u)).1=(progRest b c).1):=by
  have hut:(u.takeWhile fun c=>decide (dg c < b))=[]∧(u.dropWhile fun c=>decide (dg c < b))=u:=by
    cases u with
    | nil=>exact ⟨rfl,rfl⟩
    | cons x r =>
      have hx:isUL x=true:=by simp only [List.all_cons,Bool.and_eq_true] at hu;exact hu.1
      have hd:=ul_dg hx
      have:decide (dg x < b)=false:=decide_eq_false (by omega)
      exact ⟨by rw [List.takeWhile_cons,this];rfl,by rw [List.dropWhile_cons,this];rfl⟩
  cases ha:(c.all fun c=>decide (dg c < b))
  · have hp:progRest b c=(0,false):=by unfold progRest;rw [ha];rfl
    rw [hp]
    refine ⟨?_,fun h=>by cases h⟩
    unfold refRest
    dsimp only
    have hr:((c ++ u).dropWhile fun c=>decide (dg c < b)).all isUL=false:=by
      rw [Bool.eq_false_iff]
      intro h
      have hne:(c.dropWhile fun c=>decide (dg c < b)) ≠ []:=by
        intro e
        have e:=dropWhile_nil e
        rw [List.all_eq_false] at ha
        obtain ⟨x,hx1,hx2⟩:=ha
        exact hx2 (e x hx1)
      rw [List.dropWhile_append,if_neg (by simpa using hne),List.all_append,Bool.and_eq_true] at h
      obtain ⟨x,hx⟩:∃ x,(c.dropWhile fun c=>decide (dg c < b)).getLast? = some x:=⟨_,List.getLast?_eq_some_getLast hne⟩
      have hxm:=List.mem_of_getLast? hx
      have h1:=List.all_eq_true.mp h.1 x hxm
      have h2:=hl x (by
        have e:=List.takeWhile_append_dropWhile (p:=fun c=>decide (dg c < b)) (l:=c)
        rw [← e,List.getLast?_append,hx];rfl)
      rw [h2] at h1;cases h1
    rw [hr,Bool.and_false]
  · have hall:∀ x ∈ c,decide (dg x < b)=true:=List.all_eq_true.mp ha
    have hT:((c ++ u).takeWhile fun c=>decide (dg c < b))=c:=by
      rw [List.takeWhile_append_of_pos hall,hut.1,List.append_nil]
    have hD:((c ++ u).dropWhile fun c=>decide (dg c < b))=u:=by
      rw [List.dropWhile_append_of_pos hall,hut.2]
    unfold refRest progRest
    rw [hT,hD,hu,ha,if_pos rfl,Bool.and_true]
    exact ⟨rfl,fun _=>rfl⟩
theorem num_same (l:List UInt8) (hne:l ≠ []):(refNum l).2=(progNum l).2∧((progNum l).2=true → (refNum l).1=(progNum l).1):=by
  obtain ⟨u,e,hu,hl⟩:=cut_eq l
  unfold progNum
  obtain ⟨c,hc⟩:∃ c,cutR l=c:=⟨_,rfl⟩
  rw [hc] at e hl ⊢
  clear hc
  subst e
  match c,hl with
  | [],_ =>
    have hp:progCut []=(wrap64 0,false):=rfl
    rw [hp]
    refine ⟨?_,fun h=>by cases h⟩
    cases u with
    | nil=>exact absurd rfl hne
    | cons x r =>
      have hx:isUL x=true:=by simp only [List.all_cons,Bool.and_eq_true] at hu;exact hu.1
      have hd:=ul_dg hx
      show (refNum (x :: r)).2=false
      rw [refNum_dec x r (by unfold isUL at hx;simp only [Bool.or_eq_true,beq_iff_eq] at hx;omega)]
      unfold refRest
      rw [List.takeWhile_cons,decide_eq_false (by omega),if_neg Bool.false_ne_true]
      rfl
  | [x],hl =>
    by_cases h48:x.toNat=48
    · have hx0:dg x=0:=by unfold dg;rw [if_pos (by omega)];omega
      have hr:refNum ([x] ++ u)=refRest 8 ([x] ++ u):=by
        cases u with
        | nil=>exact refNum_one x h48
        | cons y r =>
          have hy:isUL y=true:=by simp only [List.all_cons,Bool.and_eq_true] at hu;exact hu.1
          exact refNum_oct x y r h48 (by unfold isUL at hy;simp only [Bool.or_eq_true,beq_iff_eq] at hy;omega)
      have hs:=rest_same 8 (by omega) [x] u hu hl
      have hp:progCut [x]=progRest 8 [x]:=by
        show progRest 10 [x]=progRest 8 [x]
        unfold progRest foldD
        simp [hx0]
      rw [hr,hp]
      exact hs
    · have hr:refNum ([x] ++ u)=refRest 10 ([x] ++ u):=refNum_dec x u h48
      rw [hr]
      exact rest_same 10 (by omega) [x] u hu hl
  | x :: y :: q,hl =>
    by_cases h48:x.toNat=48
    · by_cases hx:y.toNat=120 ∨ y.toNat=88
      · have hr:refNum (x :: y :: q ++ u)=refRest 16 (q ++ u):=refNum_hex x y (q ++ u) h48 hx
        have hp:progCut (x :: y :: q)=progRest 16 q:=by
          unfold progCut
          dsimp only
          rw [if_pos h48,if_pos hx]
        rw [hr,hp]
        refine rest_same 16 (by omega) q u hu (fun z hz=>hl z ?_)
        cases q with
        | nil=>cases hz
        | cons a q=>rw [List.getLast?_cons_cons,List.getLast?_cons_cons];exact hz
      · have hr:refNum (x :: y :: q ++ u)=refRest 8 (x :: y :: q ++ u):=refNum_oct x y (q ++ u) h48 hx
        have hp:progCut (x :: y :: q)=progRest 8 (x :: y :: q):=by
          unfold progCut
          dsimp only
          rw [if_pos h48,if_neg hx]
        rw [hr,hp]
        exact rest_same 8 (by omega) _ u hu hl
    · have hr:refNum (x :: y :: q ++ u)=refRest 10 (x :: y :: q ++ u):=refNum_dec x _ h48
      have hp:progCut (x :: y :: q)=progRest 10 (x :: y :: q):=by
        unfold progCut
        dsimp only
        rw [if_neg h48]
      rw [hr,hp]
      exact rest_same 10 (by omega) _ u hu hl
def whMag (m:Nat):List UInt8 → Option Nat
  | []=>some m
  | c :: r=>if 48 ≤ c.toNat∧c.toNat ≤ 57 then (if 9223372036854775808 < m * 10 + (c.toNat - 48) then none else whMag (m * 10 + (c.toNat - 48)) r) else none
def whSign (neg:Bool) (r:List UInt8):Int × Bool:=if r=[] then (0,false) else match whMag 0 r with
  | none=>(0,false)
  | some u=>if neg=true then (-(u:Int),true) else if u=9223372036854775808 then (0,false) else ((u:Int),true)
def whole:List UInt8 → Int × Bool
  | []=>(0,false)
  | c :: r=>if c.toNat=45 then whSign true r else if c.toNat=43 then whSign false r else whSign false (c :: r)
theorem whole_minus (c:UInt8) (r:List UInt8) (h:c.toNat=45):whole (c :: r)=whSign true r:=by simp [whole,h]
theorem whole_plus (c:UInt8) (r:List UInt8) (h:c.toNat=43):whole (c :: r)=whSign false r:=by simp [whole,h]
theorem whole_bare (c:UInt8) (r:List UInt8) (h:c.toNat ≠ 45) (h2:c.toNat ≠ 43):whole (c :: r)=whSign false (c :: r):=by simp [whole,h,h2]
theorem parseM_ge (M:Nat):∀ (l:List UInt8) (acc u:Nat),Lib.parseUintM M acc l=.ok u → acc ≤ u
  | [],acc,u,h=>by unfold Lib.parseUintM at h;cases h;exact Nat.le_refl _
  | c :: r,acc,u,h=>by
    unfold Lib.parseUintM at h
    split at h
    · split at h
      · cases h
      · split at h
        · cases h
        · have:=parseM_ge M r _ u h;omega
    · cases h
theorem whMag_parse:∀ (l:List UInt8) (acc:Nat),acc ≤ 9223372036854775808 → (∀ u,whMag acc l=some u → Lib.parseUintM 18446744073709551615 acc l=.ok u∧u ≤ 9223372036854775808)∧(whMag acc l=none → ∀ u,Lib.parseUintM 18446744073709551615 acc l=.ok u → 9223372036854775808 < u)
  | [],acc,ha=>by
    unfold whMag Lib.parseUintM
    exact ⟨(fun u h=>by cases h;exact ⟨rfl,ha⟩),(fun h=>by cases h)⟩
  | c :: r,acc,ha=>by
    unfold whMag Lib.parseUintM
    by_cases hd:48 ≤ c.toNat∧c.toNat ≤ 57
    · rw [if_pos hd,if_pos hd]
      by_cases hm:9223372036854775808 < acc * 10 + (c.toNat - 48)
      · rw [if_pos hm]
        refine ⟨(fun u h=>by cases h),fun _ u h => ?_⟩
        split at h
        · cases h
        · split at h
          · cases h
          · have:=parseM_ge _ _ _ _ h;omega
      · rw [if_neg hm,if_neg (by omega),if_neg (by omega)]
        exact whMag_parse r _ (by omega)
    · rw [if_neg hd,if_neg hd]
      exact ⟨(fun u h=>by cases h),(fun _ u h=>by cases h)⟩
theorem whole_worth (s:ByteArray):(if (whole s.data.toList).2=true then (whole s.data.toList).1 else 0)=worth s:=by
  have key:∀ (neg:Bool) (r:List UInt8),(if (whSign neg r).2=true then (whSign neg r).1 else 0)=(match (match Lib.parseUintB 64 r with
    | Lib.NumEnd.syntax=>(Lib.NumEnd.syntax:Lib.NumEnd Int)
    | .range => .range
    | .ok u=>if ¬ (neg=true)∧2 ^ (64 - 1) ≤ u then .range else if (neg=true)∧2 ^ (64 - 1) < u then .range else .ok (if neg=true then -(u:Int) else u)) with | .ok v=>v | _=>0):=by
    intro neg r
    unfold whSign Lib.parseUintB
    by_cases hr:r=[]
    · rw [if_pos hr,if_pos hr];rfl
    · rw [if_neg hr,if_neg hr]
      obtain ⟨h1,h2⟩:=whMag_parse r 0 (by omega)
      rw [show 2 ^ 64 - 1=18446744073709551615 from rfl,show 2 ^ (64 - 1)=9223372036854775808 from rfl]
      cases hw:whMag 0 r with
      | some u =>
        obtain ⟨h3,h4⟩:=h1 u hw
        rw [h3]
        dsimp only
        cases neg
        · simp only [Bool.false_eq_true,if_false,not_false_eq_true,true_and,false_and]
          by_cases hu:u=9223372036854775808
          · subst hu;simp
          · simp [hu,show ¬ 9223372036854775808 ≤ u by omega]
        · simp only [if_true,not_true_eq_false,false_and,if_false,true_and]
          rw [if_neg (by omega)]
      | none =>
        rcases hp:Lib.parseUintM 18446744073709551615 0 r with u | _ | _
        · have:=h2 hw u hp
          dsimp only
          cases neg
          · simp only [Bool.false_eq_true,if_false,not_false_eq_true,true_and,false_and]
            rw [if_pos (by omega)]
          · simp [this]
        · rfl
        · rfl
  unfold worth Lib.parseIntB
  cases hs:s.data.toList with
  | nil=>rfl
  | cons c r =>
    by_cases h45:c.toNat=45
    · rw [whole_minus c r h45,key true r]
      dsimp only
      rw [if_pos (Or.inr h45)]
      simp [h45]
      rcases Lib.parseUintB 64 r with u | _ | _ <;> first | rfl | (dsimp only;split <;> rfl)
    · by_cases h43:c.toNat=43
      · rw [whole_plus c r h43,key false r]
        dsimp only
        rw [if_pos (Or.inl h43)]
        simp [h45]
        rcases Lib.parseUintB 64 r with u | _ | _ <;> first | rfl | (dsimp only;split <;> rfl)
      · rw [whole_bare c r h45 h43,key false (c :: r)]
        dsimp only
        rw [if_neg (by omega)]
        simp [h45]
        rcases Lib.parseUintB 64 (c :: r) with u | _ | _ <;> first | rfl | (dsimp only;split <;> rfl)
theorem prog_in (l:List UInt8):InI (progNum l).1:=by
  have z0:InI 0:=by unfold InI;omega
  have h:∀ b l,InI (progRest b l).1:=by
    intro b l
    unfold progRest
    split
    · exact w64_in _
    · exact z0
  unfold progNum progCut
  split
  · exact h _ _
  · split
    · exact h _ _
    · split
      · split <;> exact h _ _
      · exact h _ _
end Lx
end Go.Proofs.YtjnafjgonoficaaGreatDoor
