/-
  What cond.words comes to. Conditions: the text is short; the library's variables are as their text lays them.
  What cond.Words comes to. Conditions: the text is short; the library's variables are as their text lays them.
  What the reference's Words comes to. Conditions: the text is short.
  What the reference's Words comes to, whole; the two kinds of a directive. Conditions: the text is short.
  What the kinds of a directive come to, in the program and in the reference. Conditions: the text is short; the library's variables are as their text lays them.
  Slices of ints: how they read, and that equal ones are found equal; the tokens of a text that is not too long. Conditions: the text is short.
  The groups of a text, plainly; what opens a group. Conditions: none.
  The groups of a text, plainly: a stack of open groups, the groups found so far. No program in sight. Conditions: none.
  The groups of a text, plainly: what is said of a whole text, and what holds on the way. No program in sight. Conditions: none.
  The places of a text's tokens, plainly: through which groups and branches one goes, from outside in. No program in sight. Conditions: none.
-/
import Derived.Test.YtjnafjgonoficaaGreatDoorF05
set_option linter.unusedVariables false
set_option linter.unusedSimpArgs false
namespace Go.Proofs.YtjnafjgonoficaaGreatDoor
open Go.RowKit Go.Proofs.YtjnafjgonoficaaGreatDoorW.PrintWords
theorem TokAt.mid {w:World} {g o:Nat} {x:Lx.Tok} {l:List Lx.Tok} {r:List Lx.Tok} (h:TokAt w g o (x :: (l ++ r))):TokAt w g (o + 4) l:=fun i t ht=>by
  have hl:i < l.length:=(List.getElem?_eq_some_iff.1 ht).1
  have:=h (i + 1) t (by rw [List.getElem?_cons_succ,List.getElem?_append_left hl];exact ht)
  rw [show o + (i + 1) * 4=o + 4 + i * 4 from by omega] at this
  exact this
theorem pre_toList (c:UInt8) (s:ByteArray):(⟨#[c]⟩:ByteArray) ++ s=Lx.pre c s:=rfl
set_option maxRecDepth 100000 in
set_option maxHeartbeats 8000000 in
theorem words_calls (m:Nat):∀ (s:ByteArray) (add:Int) (w:World),s.size=m → s.size ≤ 20000 → 0 ≤ add → add + s.size ≤ 1000000 → MaxLen w → Blanks w → 5 ≤ w.heap.size →
    Calls Tryz.prog 41 #[.string s,.int .i64 add] w fun e w' => ∃ v,e=.returned v∧w'.ownsRow w.heap.size 29 4 v (Lx.wd s add).length (tokCells (Lx.wd s add))∧Below w.heap.size w w':=by
  induction m using Nat.strongRecOn with
  | ind m ih =>
  intro s add w hsz hs ha0 ha1 hm hbl h5
  have IH:=mkA ih
  have HSZ:=mkA hsz
  clear ih hsz
  obtain ⟨l,b,hT,hl⟩:=Lx.toks_last (Lx.pre 59 s) 1 false (by rw [Lx.pre_size];omega)
  have hscan:Lx.scan (Lx.pre 40 s)=⟨6,(Lx.pre 40 s).extract 0 0,(Lx.pre 40 s).extract 0 1,0⟩ :: (l ++ [⟨0,b,⟨#[]⟩,((Lx.pre 59 s).size:Nat)⟩]):=by
    rw [Lx.pre_scan 40 s (.inl rfl),(Lx.pre_same 40 59 s).toks 1 false (Nat.le_refl _) (by rw [Lx.pre_size];omega),hT]
  have hpz:(Lx.pre 40 s).size ≤ 30000:=by rw [Lx.pre_size];omega
  have hll:=scan_len (Lx.pre 40 s)
  rw [hscan,Lx.pre_size] at hll
  simp at hll
  have hpre:=pre_toList 40 s
  have HSC:=mkA hscan
  have HTT:=mkA hT
  have HL:=mkA hl
  clear hscan hT hl
  obtain ⟨base,hbase⟩:∃ base,w.heap.size=base:=⟨_,rfl⟩
  rw [hbase]
  have HBASE:=mkA hbase
  clear hbase
  go_enter Tryz.func41,Tryz.ntmps41
  go_wp2_with (go_at_call 63;(refine (lexScan_calls (Lx.pre 40 s) _ hpz ?_ ?_ ?_).mono ?_);exact hm;exact hbl;exact h5;rintro e w' ⟨v5,rfl,hv,hb⟩;rw [HSC.out] at hv;obtain ⟨A,c,rfl,hc1,hc2,hor⟩:=own_tks hv;obtain ⟨g,o,rfl,hta,hglt⟩:=hor.resolve_left (by simp);have HTA:=mkA hta;have HB:=mkA hb;have HGLT:=mkA hglt;clear hv hb hor hta;simp only [List.length_cons,List.length_append,List.length_singleton] at hc1 ⊢)
  obtain ⟨base2,hb2⟩:∃ base2,w'.heap.size=base2:=⟨_,rfl⟩
  have HB2:=mkA hb2
  have hsz2:base2 ≤ w'.heap.size:=by omega
  have HM:=mkA hm
  have HBL:=mkA hbl
  have H5:=mkA h5
  clear hb2 hpre hm hbl h5 hglt
  go_loopg [7,26] l.length (fun kq v7 v26 W => ∃ (i:Nat) (D:List Lx.Tok),v26=.int .i64 i∧Aside0 (i ≤ l.length∧D ++ (Lx.wline add (l.drop i)).1=(Lx.wline add l).1∧(Lx.wline add (l.drop i)).2=(Lx.wline add l).2∧D.length ≤ i∧kq=l.length - i) ∧
    W.ownsRow base2 29 4 v7 D.length (tokCells D)∧Below base2 w' W∧base2 ≤ W.heap.size)
  case atStart=>exact ⟨0,[],rfl,⟨by omega,rfl,rfl,Nat.le_refl _,rfl⟩,own_nil _ _ _ _,Below.refl _ _,hsz2⟩
  case round =>
    obtain ⟨i,D,rfl,HA,hown,hB,hbs⟩:=hrel
    have hi:=HA.out.1
    by_cases hlt:i < l.length
    · obtain ⟨t,ht⟩:∃ t,l[i]? = some t:=⟨_,List.getElem?_eq_getElem hlt⟩
      obtain ⟨hk0,p,hp,hp1,hp2⟩:=HL.out t (List.mem_of_getElem? ht)
      rw [Lx.pre_size] at hp2
      have hdrop:l.drop i=t :: l.drop (i + 1):=by rw [List.drop_eq_getElem_cons hlt];congr 1;rw [List.getElem?_eq_getElem hlt] at ht;exact Option.some.inj ht
      have htw:TokAt wr g (o + 4) l:=(HTA.out.mid).below (by rw [HB2.out];exact hB) (by have:=HGLT.out;omega)
      obtain ⟨a0,a1,a2,a3⟩:=htw i t ht
      rw [hp] at a3
      have hw1:IntKind.i64.wrap ((p:Int) - 1)=(p:Int) - 1:=IntWalk.i64_in _ (by omega)
      have hw2:IntKind.i64.wrap ((p:Int) - 1 + add)=(p:Int) - 1 + add:=IntWalk.i64_in _ (by omega)
      have hp3:p ≤ 30000:=by omega
      have HD:=mkA hdrop
      have HP:=mkA (And.intro hp (And.intro hp1 hp2))
      have HOWN:=mkA hown
      have HBB:=mkA hB
      have HK0:=mkA hk0
      clear hdrop hp hp1 hp2 htw ht hown hB hk0
      cases hk:(t.k == 7)
      · go_wp2_with (at_builtin;refine print_append_cells (w0:=wr) base2 rfl (.tmp 48) (.tmp 50) 22 29 (.agg #[.int .i64 0,.string ⟨#[]⟩,.string ⟨#[]⟩,.int .i64 0]) 4 48 rfl Tryz.underlying22 (by kernel_rfl) rfl (by decide) (by decide) u7 D.length (tokCells D) [.int .i64 (t.k),.string t.b,.string t.t,.int .i64 ((p:Int) - 1 + add)] rfl (by simp [Act.eval]) rfl (by simp [Value.oneCell']) (HOWN.out.alloc _) ((Below.refl _ _).alloc (by omega) _) (by simp;omega) (by have:=HA.out;omega) ?_;intro v1 w1 hv1 hb1 hg1 hat1;have HV1:=mkA hv1;have HB1:=mkA hb1;clear hv1 hb1 hg1 hat1)
        go_roundg (l.length - (i + 1))
        case measure=>have:=HA.out;omega
        case rel =>
          have hu:Lx.wline add (l.drop i)=(⟨t.k,t.b,t.t,t.a - 1 + add⟩ :: (Lx.wline add (l.drop (i + 1))).1,(Lx.wline add (l.drop (i + 1))).2):=by
            rw [HD.out]
            conv=>lhs;unfold Lx.wline
            rw [if_neg HK0.out,if_neg (beq_eq_false_iff_ne.mp hk)]
          refine ⟨i + 1,D ++ [⟨t.k,t.b,t.t,t.a - 1 + add⟩],by go_num,⟨by omega,?_,?_,?_,rfl⟩,?_,HBB.out.trans HB1.out,?_⟩
          · have:=HA.out.2.1
            rw [hu] at this
            rw [← this,List.append_assoc];rfl
          · rw [← HA.out.2.2.1,hu]
          · have:=HA.out;rw [List.length_append,List.length_singleton];omega
          · rw [HP.out.1,List.length_append,tokCells_app,List.length_singleton]
            exact HV1.out
          · have:=HB1.out.size;omega
      · have h7:=beq_iff_eq.mp hk
        have H7:=mkA h7
        have hw4:IntKind.i64.wrap (add + (p:Int))=add + (p:Int):=IntWalk.i64_in _ (by omega)
        have hp4:p ≤ s.size:=by have:=HP.out.2.2;omega
        have hu:Lx.wline add (l.drop i)=([(⟨6,t.b,⟨#[35]⟩,t.a - 1 + add⟩:Lx.Tok)],some p):=by
          rw [HD.out]
          conv=>lhs;unfold Lx.wline
          rw [if_neg HK0.out,if_pos h7,HP.out.1]
          simp
        have HU:=mkA hu
        clear h7 hu
        go_wp2_with (at_builtin;refine print_append_cells (w0:=wr) base2 rfl (.tmp 48) (.tmp 50) 22 29 (.agg #[.int .i64 0,.string ⟨#[]⟩,.string ⟨#[]⟩,.int .i64 0]) 4 48 rfl Tryz.underlying22 (by kernel_rfl) rfl (by decide) (by decide) u7 D.length (tokCells D) [.int .i64 (6),.string t.b,.string ⟨#[35]⟩,.int .i64 ((p:Int) - 1 + add)] rfl (by simp [Act.eval]) rfl (by simp [Value.oneCell']) (HOWN.out.alloc _) ((Below.refl _ _).alloc (by omega) _) (by simp;omega) (by have:=HA.out;omega) ?_;intro v1 w1 hv1 hb1 hg1 hat1;have HV1:=mkA hv1;have HB1:=mkA hb1;clear hv1 hb1 hg1 hat1)
        have hbb:base ≤ base2:=by have h1:=HB.out.size;have h2:=HBASE.out;have h3:=HB2.out;omega
        have hBW:Below base w w1:=by
          have h1:=HB.out
          rw [HBASE.out] at h1
          exact h1.trans ((HBB.out.trans HB1.out).mono hbb)
        have h50:5 ≤ base:=by have h1:=H5.out;have h2:=HBASE.out;omega
        have hm1:MaxLen w1:=HM.out.belowN hBW (by omega)
        have hbl1:Blanks w1:=HBL.out.below (by rw [HBASE.out];exact hBW) (by have h2:=HBASE.out;omega)
        have hsw1:base2 ≤ w1.heap.size:=by have h1:=HB1.out.size;omega
        have h51:5 ≤ w1.heap.size:=by omega
        have hv1:w1.ownsRow base2 29 4 v1 (D ++ [(⟨6,t.b,⟨#[35]⟩,t.a - 1 + add⟩:Lx.Tok)]).length (tokCells (D ++ [(⟨6,t.b,⟨#[35]⟩,t.a - 1 + add⟩:Lx.Tok)])):=by
          rw [HP.out.1,List.length_append,tokCells_app,List.length_singleton]
          exact HV1.out
        have hD1:D ++ [(⟨6,t.b,⟨#[35]⟩,t.a - 1 + add⟩:Lx.Tok)]=(Lx.wline add l).1:=by
          have h1:=HA.out.2.1;rw [HU.out] at h1;exact h1
        have hD2:(Lx.wline add l).2=some p:=by rw [← HA.out.2.2.1,HU.out]
        have hwd:Lx.wd s add=D ++ [(⟨6,t.b,⟨#[35]⟩,t.a - 1 + add⟩:Lx.Tok)] ++ Lx.wd (s.extract p s.size) (add + p):=by
          rw [hD1]
          conv=>lhs;unfold Lx.wd
          rw [HTT.out,Lx.wline_end,hD2]
          have hcc:0 < p∧p ≤ s.size:=⟨by have:=HP.out.2.1;omega,hp4⟩
          simp only [dif_pos hcc]
        have hwl:=Lx.wd_len s add
        rw [hwd,List.length_append] at hwl
        generalize D ++ [(⟨6,t.b,⟨#[35]⟩,t.a - 1 + add⟩:Lx.Tok)]=D1 at hv1 hD1 hwd hwl
        have HV1':=mkA hv1
        have HBW:=mkA hBW
        have HWD:=mkA hwd
        have HWL:=mkA hwl
        have hsz':(s.extract p s.size).size=s.size - p:=by rw [ByteArray.size_extract];omega
        have HSX:=mkA hsz'
        clear hv1 hBW hwd hwl hD1 hD2 hsz'
        go_at_call 41
        refine (IH.out (s.size - p) (by have h1:=HP.out.2.1;have h2:=HSZ.out;omega) (s.extract p s.size) (add + p) _ HSX.out (by rw [HSX.out];omega) (by omega) (by rw [HSX.out];omega) hm1 hbl1 h51).mono ?_
        rintro e w2 ⟨v2,rfl,hv2,hb2⟩
        have HV2:=mkA hv2
        have HBW2:=mkA hb2
        have hown1:=HV1'.out.kept (grown_below (World.grownBy.refl _ none) hb2) (Classical.em _)
        have HOWN1:=mkA hown1
        have hsw2:base2 ≤ w2.heap.size:=by have h1:=hb2.size;omega
        clear hv2 hb2 hown1
        go_wp2_with (at_builtin;refine tok_append_own base2 w1.heap.size rfl (.tmp 53) (.tmp 60) rfl v1 v2 D1 (Lx.wd (s.extract p s.size) (add + p)) rfl rfl HOWN1.out HV2.out hsw2 (by have:=HWL.out;omega) ?_;intro v3 w3 hv3 hg3;have HV3:=mkA hv3;have HG3:=mkA hg3;clear hv3 hg3)
        go_ret
        refine ⟨_,rfl,by rw [HWD.out];exact own_lower HV3.out hbb,?_⟩
        exact (HBW.out.trans (HBW2.out.mono (by omega))).grown HG3.out (by omega) (fun k hk=>Nat.le_trans hbb (own_base HOWN1.out k hk))
    · have hil:i=l.length:=by omega
      have hnil:l.drop i=[]:=List.drop_eq_nil_of_le (by omega)
      have e1:=HA.out.2.1
      have e2:=HA.out.2.2.1
      rw [hnil] at e1 e2
      simp only [Lx.wline,List.append_nil] at e1 e2
      have hwd:Lx.wd s add=D:=by
        conv=>lhs;unfold Lx.wd
        rw [HTT.out,Lx.wline_end,← e2,← e1]
      have HWD:=mkA hwd
      have hild:decide (i < l.length)=false:=decide_eq_false hlt
      have HOWN:=mkA hown
      have HBB:=mkA hB
      clear hil hnil e1 e2 hwd hlt hown hB
      go_wp2_with fail
      go_ret
      have hbb:base ≤ base2:=by have h1:=HB.out.size;have h2:=HBASE.out;have h3:=HB2.out;omega
      have h1:=HB.out
      rw [HBASE.out] at h1
      exact ⟨_,rfl,by rw [HWD.out];exact own_lower HOWN.out hbb,h1.trans (HBB.out.mono hbb)⟩
namespace Lx
def isDir (t:Tok):Bool:=decide (t.k=7) && decide (B t.t 0=35)
def wdOf (t:Tok):List Tok:=if isDir t=true then wd (t.t.extract 1 t.t.size) 0 else []
end Lx
theorem hash_at (s:ByteArray):Lib.hasPrefix s.data.toList (ByteArray.mk #[35]).data.toList=decide (Lx.B s 0=35):=Lx.prefix_one s 0 35 (by decide)
theorem condWords_calls (t:Lx.Tok) (w:World) (hs:t.t.size ≤ 20000) (hm:MaxLen w) (hbl:Blanks w) (h5:5 ≤ w.heap.size) :
    Calls Tryz.prog 11 #[tokV t] w fun e w' => ∃ v,e=.returned (.tuple #[v,.int .i64 (if Lx.isDir t=true then 0 else 3)])∧w'.ownsRow w.heap.size 29 4 v (Lx.wdOf t).length (tokCells (Lx.wdOf t))∧Below w.heap.size w w':=by
  have hB1:Below w.heap.size w (w.alloc (.cells #[.int .i64 t.k,.string t.b,.string t.t,.int .i64 t.a] 29)):=(Below.refl _ _).alloc (Nat.le_refl _) _
  unfold tokV
  cases hk:(t.k != 7)
  · cases hh:decide (Lx.B t.t 0=35)
    · have HD:Aside0 (Lx.isDir t=false):=⟨by unfold Lx.isDir;rw [hh,Bool.and_false]⟩
      rw [HD.out,if_neg Bool.false_ne_true]
      have hpx:=hash_at t.t
      rw [hh] at hpx
      clear hh
      go_enter Tryz.func11,Tryz.ntmps11
      go_wp2_with (go_at_call 40;(refine (Tryz.strings_HasPrefix _ _ _).mono ?_);rintro e w' ⟨rfl,rfl⟩;rw [hpx])
      go_ret2
      exact ⟨_,rfl,by unfold Lx.wdOf;rw [HD.out,if_neg Bool.false_ne_true];exact own_nil _ _ _ _,hB1⟩
    · have HD:Aside0 (Lx.isDir t=true):=⟨by unfold Lx.isDir;rw [hh,bne_eq_false_iff_eq.mp hk];rfl⟩
      rw [HD.out,if_pos rfl]
      have h1s:1 ≤ t.t.size:=Lx.B_lt_of_ne (s:=t.t) (i:=0) (by rw [of_decide_eq_true hh];decide)
      have hpx:=hash_at t.t
      rw [hh] at hpx
      clear hh
      go_enter Tryz.func11,Tryz.ntmps11
      go_wp2_with (first | (go_at_call 40;(refine (Tryz.strings_HasPrefix _ _ _).mono ?_);rintro e w' ⟨rfl,rfl⟩;rw [hpx]) | (go_at_call 41;(refine (words_calls _ (t.t.extract 1 t.t.size) 0 _ rfl ?_ (by omega) ?_ ?_ ?_ ?_).mono ?_);(rw [ByteArray.size_extract];omega);(rw [ByteArray.size_extract];omega);exact hm.belowN hB1 (by omega);exact hbl.below hB1 (by omega);(simp;omega);rintro e w' ⟨v,rfl,hv,hb⟩;have HV:=mkA hv;have HB:=mkA hb;clear hv hb))
      go_ret2
      refine ⟨_,rfl,?_,?_⟩
      · unfold Lx.wdOf;rw [HD.out,if_pos rfl];exact own_lower HV.out (by simp)
      · exact hB1.trans (HB.out.mono (by simp))
  · have HD:Aside0 (Lx.isDir t=false):=⟨by unfold Lx.isDir;rw [decide_eq_false (bne_iff_ne.mp hk),Bool.false_and]⟩
    rw [HD.out,if_neg Bool.false_ne_true]
    go_enter Tryz.func11,Tryz.ntmps11
    go_wp2_with fail
    go_ret2
    exact ⟨_,rfl,by unfold Lx.wdOf;rw [HD.out,if_neg Bool.false_ne_true];exact own_nil _ _ _ _,hB1⟩
theorem ext_ext (s:ByteArray) (a b:Nat) (h:a + b ≤ s.size):(s.extract a s.size).extract b (s.extract a s.size).size=s.extract (a + b) s.size:=by
  apply ByteArray.ext
  apply Array.toList_inj.1
  rw [Lib.extract_to_end,Lib.extract_to_end,Lib.extract_to_end,List.drop_drop]
theorem wd_line (s:ByteArray) (add:Int) (n:Nat) (h:(Lx.wline add (Lx.toks (Lx.pre 59 s) 1 false)).2=some n) (h1:0 < n) (h2:n ≤ s.size) :
    Lx.wd s add=(Lx.wline add (Lx.toks (Lx.pre 59 s) 1 false)).1 ++ Lx.wd (s.extract n s.size) (add + n):=by
  conv=>lhs;unfold Lx.wd
  have hc:0 < n∧n ≤ s.size:=⟨h1,h2⟩
  rw [h]
  simp only [dif_pos hc]
theorem wd_none (s:ByteArray) (add:Int) (h:(Lx.wline add (Lx.toks (Lx.pre 59 s) 1 false)).2=none) :
    Lx.wd s add=(Lx.wline add (Lx.toks (Lx.pre 59 s) 1 false)).1:=by
  conv=>lhs;unfold Lx.wd
  rw [h]
theorem ext_zero (s:ByteArray):s.extract 0 s.size=s:=by
  apply ByteArray.ext
  apply Array.toList_inj.1
  rw [Lib.extract_to_end];rfl
theorem TokAt.tail {w:World} {g o:Nat} {x:Lx.Tok} {l:List Lx.Tok} (h:TokAt w g o (x :: l)):TokAt w g (o + 4) l:=fun i t ht=>by
  have:=h (i + 1) t (by rw [List.getElem?_cons_succ];exact ht)
  rw [show o + (i + 1) * 4=o + 4 + i * 4 from by omega] at this
  exact this
theorem TokAt.keep {w w':World} {g o:Nat} {L:List Lx.Tok} {row:Option Nat} (h:TokAt w g o L) (hg:w.grownBy w' row) (hne:some g ≠ row):TokAt w' g o L:=fun i t ht=>by
  obtain ⟨a0,a1,a2,a3⟩:=h i t ht
  exact ⟨hg.cell a0 hne,hg.cell a1 hne,hg.cell a2 hne,hg.cell a3 hne⟩
set_option maxRecDepth 100000 in
set_option maxHeartbeats 8000000 in
theorem refWords_yes (t:Lx.Tok) (w:World) (hs:t.t.size ≤ 20000) (hd:Lx.isDir t=true) :
    Calls Tryz.prog 12 #[tokV t] w fun e w' => ∃ v,e=.returned (.tuple #[v,.int .i64 0])∧w'.ownsRow w.heap.size 29 4 v (Lx.wdOf t).length (tokCells (Lx.wdOf t))∧Below w.heap.size w w':=by
  have hB1:Below w.heap.size w (w.alloc (.cells #[.int .i64 t.k,.string t.b,.string t.t,.int .i64 t.a] 29)):=(Below.refl _ _).alloc (Nat.le_refl _) _
  unfold tokV
  have hwo:Lx.wdOf t=Lx.wd (t.t.extract 1 t.t.size) 0:=if_pos hd
  rw [hwo]
  unfold Lx.isDir at hd
  rw [Bool.and_eq_true,decide_eq_true_eq,decide_eq_true_eq] at hd
  obtain ⟨hk,hh⟩:=hd
  have h1s:0 < t.t.size:=Lx.B_lt_of_ne (s:=t.t) (i:=0) (by rw [hh];decide)
  have h1s':1 ≤ t.t.size:=h1s
  have hge:=emptyB t.t
  rw [decide_eq_false (by omega)] at hge
  have hg0:=B_get t.t 0 h1s
  rw [hh] at hg0
  obtain ⟨s,hse⟩:∃ s,t.t.extract 1 t.t.size=s:=⟨_,rfl⟩
  have hss:s.size ≤ 20000:=by rw [← hse,ByteArray.size_extract];omega
  rw [hse]
  obtain ⟨base,hbase⟩:∃ base,w.heap.size=base:=⟨_,rfl⟩
  rw [hbase] at hB1 ⊢
  have HBASE:=mkA hbase
  have HB0:=mkA hB1
  have hbs0:base ≤ (w.alloc (.cells #[.int .i64 t.k,.string t.b,.string t.t,.int .i64 t.a] 29)).heap.size:=by simp;omega
  have HBS0:=mkA hbs0
  rw [hk] at HB0 HBS0
  clear hwo hh hbase hB1 hbs0
  go_enter Tryz.func12,Tryz.ntmps12
  go_wp2_with fail
  go_loopg [5,6] (s.size + 1) (fun kq v5 v6 W => ∃ (D:List Lx.Tok) (pos:Nat),v6=.int .i64 pos∧Aside0 (D ++ Lx.wd (s.extract pos s.size) pos=Lx.wd s 0∧pos ≤ s.size∧kq=s.size + 1 - pos) ∧
    W.ownsRow base 29 4 v5 D.length (tokCells D)∧Below base w W∧base ≤ W.heap.size)
  case atStart=>exact ⟨[],0,rfl,⟨by rw [ext_zero];rfl,Nat.zero_le _,rfl⟩,own_nil _ _ _ _,HB0.out,HBS0.out⟩
  case round =>
    clear hge hg0 h1s h1s' hk hse
    obtain ⟨D,pos,rfl,HA,hown,hB,hbs⟩:=hrel
    have hpos:=HA.out.2.1
    obtain ⟨sp,hsp⟩:∃ sp,s.extract pos s.size=sp:=⟨_,rfl⟩
    have hspz:sp.size=s.size - pos:=by rw [← hsp,ByteArray.size_extract];omega
    obtain ⟨l,b,hT,hl⟩:=Lx.toks_last (Lx.pre 59 sp) 1 false (by rw [Lx.pre_size];omega)
    have hscan:Lx.scan (Lx.pre 59 sp)=⟨6,(Lx.pre 59 sp).extract 0 0,(Lx.pre 59 sp).extract 0 1,0⟩ :: (l ++ [⟨0,b,⟨#[]⟩,((Lx.pre 59 sp).size:Nat)⟩]):=by
      rw [Lx.pre_scan 59 sp (.inr rfl),hT]
    have hpz:(Lx.pre 59 sp).size ≤ 30000:=by rw [Lx.pre_size];omega
    have hll:=scan_len (Lx.pre 59 sp)
    rw [hscan,Lx.pre_size] at hll
    simp at hll
    have hpre:=pre_toList 59 sp
    have hDl:Aside0 (D.length ≤ 20001):=⟨by have h1:=congrArg List.length HA.out.1;have h2:=Lx.wd_len s 0;rw [List.length_append] at h1;omega⟩
    have HSC:=mkA hscan
    have HTT:=mkA hT
    have HL:=mkA hl
    have HSP:=mkA hsp
    have HSPZ:=mkA hspz
    have HOWN:=mkA hown
    have HBB:=mkA hB
    have hspl:sp.size ≤ 20000:=by omega
    clear hscan hT hl hown hB hspz
    go_wp2_with (go_at_call 39;(refine (scanr_calls (Lx.pre 59 sp) _ hpz).mono ?_);rintro e w' ⟨v7,rfl,hv,hb⟩;rw [HSC.out] at hv;obtain ⟨A,c,rfl,hc1,hc2,hor⟩:=own_tks hv;obtain ⟨g,o,rfl,hta,hglt⟩:=hor.resolve_left (by simp);have HGG:=mkA (own_base hv g rfl);have HTA:=mkA hta;have HB:=mkA hb;have HGLT:=mkA hglt;clear hv hb hor hta hglt;simp only [List.length_cons,List.length_append,List.length_singleton] at hc1 ⊢)
    have hT0:=HTA.out
    generalize (⟨6,(Lx.pre 59 sp).extract 0 0,(Lx.pre 59 sp).extract 0 1,0⟩:Lx.Tok)=x0 at hT0
    have hTl:(l ++ [(⟨0,b,⟨#[]⟩,((Lx.pre 59 sp).size:Nat)⟩:Lx.Tok)]).length=l.length + 1:=by simp
    have hTp:∀ t ∈ l ++ [(⟨0,b,⟨#[]⟩,((Lx.pre 59 sp).size:Nat)⟩:Lx.Tok)],∃ p:Nat,t.a=(p:Int)∧1 ≤ p∧p ≤ sp.size + 1∧(t.k ≠ 0 → p ≤ sp.size):=by
      intro t ht
      rcases List.mem_append.1 ht with ht | ht
      · obtain ⟨-,p,e,h1,h2⟩:=HL.out t ht
        rw [Lx.pre_size] at h2
        exact ⟨p,e,h1,by omega,fun _=>by omega⟩
      · rw [List.mem_singleton] at ht
        subst ht
        exact ⟨_,rfl,by rw [Lx.pre_size];omega,by rw [Lx.pre_size];omega,fun h=>absurd rfl h⟩
    generalize l ++ [(⟨0,b,⟨#[]⟩,((Lx.pre 59 sp).size:Nat)⟩:Lx.Tok)]=T at HTT hT0 hTl hTp
    have HTP:=mkA hTp
    have HTL:=mkA hTl
    have hgw:=HGLT.out
    have hown0:=HOWN.out.kept (grown_below (World.grownBy.refl _ none) HB.out) (Classical.em _)
    have hB1:Below base w w':=HBB.out.trans (HB.out.mono hbs)
    have hbs1:base ≤ w'.heap.size:=by have:=HB.out.size;omega
    have hne0:Value.ownBlock u5 ≠ some g:=fun e=>by have h1:=own_lt HOWN.out _ e;have h2:=HGG.out;omega
    clear hpre hTp hTl HSC HL HTA HB HBB HOWN HGG HGLT
    obtain ⟨N,hN⟩:∃ N,l.length=N:=⟨_,rfl⟩
    rw [hN] at HTL hll hc1 ⊢
    clear hN
    go_loopg [5,6,9,10] (N + 2) (fun kq v5 v6 v9 v10 W => ∃ (E:List Lx.Tok) (i ps:Nat) (gg:Bool),v6=.int .i64 ps∧v9=.bool gg∧v10=.int .i64 i ∧
      Aside0 (E.length ≤ D.length + (Lx.wline pos T).1.length∧1 ≤ i∧i ≤ N + 2∧((gg=false∧ps=pos∧E ++ (Lx.wline pos (T.drop (i - 1))).1=D ++ (Lx.wline pos T).1∧(Lx.wline pos (T.drop (i - 1))).2=(Lx.wline pos T).2∧kq=N + 3 - i) ∨
        (gg=true∧E=D ++ (Lx.wline pos T).1∧(∃ n:Nat,(Lx.wline pos T).2=some n∧ps=pos + n∧0 < n∧n ≤ sp.size)∧kq=0))) ∧
      W.ownsRow base 29 4 v5 E.length (tokCells E)∧Value.ownBlock v5 ≠ some g∧TokAt W g o (x0 :: T)∧g < W.heap.size∧Below base w W∧base ≤ W.heap.size)
    case atStart=>exact ⟨D,1,pos,false,rfl,rfl,rfl,⟨by omega,by omega,by omega,.inl ⟨rfl,rfl,rfl,rfl,rfl⟩⟩,hown0,hne0,hT0,hgw,hB1,hbs1⟩
    case round =>
      obtain ⟨E,i,ps,gg,rfl,rfl,rfl,HI,hown,hne,hta,hglt,hB,hbs2⟩:=hrel
      clear hown0 hne0 hT0 hgw hB1 hbs1
      have hi1:=HI.out.2.1
      have hi2:=HI.out.2.2.1
      have hwl:=Lx.wline_len pos T
      have hTl:=HTL.out
      have HEL:Aside0 (E.length ≤ 60000):=⟨by have h1:=HI.out.1;have h2:=hDl.out;omega⟩
      have HOWN:=mkA hown
      have HBB:=mkA hB
      have HNE:=mkA hne
      have HTA:=mkA hta
      have HGLT:=mkA hglt
      clear hown hB hne hta hglt hwl hTl
      rcases HI.out.2.2.2 with ⟨rfl,hps,hE,hE2,hkq⟩ | ⟨rfl,hE,hE2,hkq⟩
      · obtain rfl:pos=ps:=hps.symm
        by_cases hlt:i < N + 2
        · have hld:decide ((i:Int) < (N:Int) + 1 + 1)=true:=by rw [decide_eq_true_eq];omega
          obtain ⟨t,ht⟩:∃ t,T[i - 1]? = some t:=⟨_,List.getElem?_eq_getElem (by have:=HTL.out;omega)⟩
          obtain ⟨p,hp,hp1,hp2,hp3⟩:=HTP.out t (List.mem_of_getElem? ht)
          have hdrop:T.drop (i - 1)=t :: T.drop (i + 1 - 1):=by
            have hlt2:i - 1 < T.length:=by have:=HTL.out;omega
            rw [List.drop_eq_getElem_cons hlt2]
            rw [List.getElem?_eq_getElem hlt2] at ht
            rw [Option.some.inj ht,show i - 1 + 1=i + 1 - 1 from by omega]
          obtain ⟨a0,a1,a2,a3⟩:=HTA.out i t (by rw [show i=(i - 1) + 1 from by omega,List.getElem?_cons_succ];exact ht)
          rw [hp] at a3
          have HE:=mkA (And.intro hE hE2)
          have HKQ:=mkA hkq
          have HD:=mkA hdrop
          have HP:=mkA (And.intro hp hp3)
          clear hE hE2 hkq hp ht hdrop hp3
          cases hk:(t.k == 0)
          · cases hk7:(t.k == 7)
            · go_wp2_with (at_builtin;refine print_append_cells (w0:=wr) base rfl (.tmp 62) (.tmp 64) 22 29 (.agg #[.int .i64 0,.string ⟨#[]⟩,.string ⟨#[]⟩,.int .i64 0]) 4 48 rfl Tryz.underlying22 (by kernel_rfl) rfl (by decide) (by decide) u5 E.length (tokCells E) [.int .i64 (t.k),.string t.b,.string t.t,.int .i64 ((p:Int) + pos - 1)] rfl (by simp [Act.eval]) rfl (by simp [Value.oneCell']) (HOWN.out.alloc _) ((Below.refl _ _).alloc (by omega) _) (by simp;omega) (by have:=HEL.out;omega) ?_;intro v1 w1 hv1 hb1 hg1 hat1;have HV1:=mkA hv1;have HB1:=mkA hb1;have HG1:=mkA hg1;have HAT1:=mkA hat1;clear hv1 hb1 hg1 hat1)
              go_roundg (N + 3 - (i + 1))
              case measure=>have:=HKQ.out;omega
              case rel =>
                have hu:Lx.wline pos (T.drop (i - 1))=(⟨t.k,t.b,t.t,t.a - 1 + pos⟩ :: (Lx.wline pos (T.drop (i + 1 - 1))).1,(Lx.wline pos (T.drop (i + 1 - 1))).2):=by
                  rw [HD.out]
                  conv=>lhs;unfold Lx.wline
                  rw [if_neg (beq_eq_false_iff_ne.mp hk),if_neg (beq_eq_false_iff_ne.mp hk7)]
                have hE1:=HE.out.1
                have hE2:=HE.out.2
                rw [hu] at hE1 hE2
                refine ⟨E ++ [⟨t.k,t.b,t.t,t.a - 1 + pos⟩],i + 1,pos,false,rfl,rfl,by go_num,⟨?_,by omega,by omega,.inl ⟨rfl,rfl,?_,hE2,rfl⟩⟩,?_,?_,(HTA.out.keep (World.grownBy_alloc _ _ none) (by simp)).keep HG1.out (fun e=>HNE.out e.symm),(by have h1:=HG1.out.size;have h2:=HGLT.out;simp at h1;omega),HBB.out.trans HB1.out,(by have h1:=HG1.out.size;simp at h1;omega)⟩
                · have h1:=congrArg List.length hE1
                  simp only [List.length_append,List.length_cons] at h1
                  rw [List.length_append,List.length_singleton];omega
                · rw [← hE1,List.append_assoc];rfl
                · rw [HP.out.1,List.length_append,tokCells_app,List.length_singleton,show (p:Int) - 1 + pos=p + pos - 1 from by omega]
                  exact HV1.out
                · intro e
                  rcases HAT1.out with h | ⟨b1,h,hb1⟩
                  · exact HNE.out (h.symm.trans e)
                  · rw [e] at h
                    have h2:=Option.some.inj h
                    have h3:=HGLT.out
                    simp at hb1
                    omega
            · have hk7':=beq_iff_eq.mp hk7
              have HK7:=mkA hk7'
              have HPS:Aside0 (p ≤ sp.size):=⟨HP.out.2 (beq_eq_false_iff_ne.mp hk)⟩
              clear hk7'
              go_wp2_with (at_builtin;refine print_append_cells (w0:=wr) base rfl (.tmp 72) (.tmp 74) 22 29 (.agg #[.int .i64 0,.string ⟨#[]⟩,.string ⟨#[]⟩,.int .i64 0]) 4 48 rfl Tryz.underlying22 (by kernel_rfl) rfl (by decide) (by decide) u5 E.length (tokCells E) [.int .i64 (6),.string t.b,.string ⟨#[35]⟩,.int .i64 ((p:Int) + pos - 1)] rfl (by simp [Act.eval]) rfl (by simp [Value.oneCell']) (HOWN.out.alloc _) ((Below.refl _ _).alloc (by omega) _) (by simp;omega) (by have:=HEL.out;omega) ?_;intro v1 w1 hv1 hb1 hg1 hat1;have hbox:=blk_grown (blk_new wr _) hg1 (fun e=>by have:=own_lt HOWN.out _ e.symm;omega);have bx3:=blk_cell hbox 3;simp at bx3;clear hbox;have HV1:=mkA hv1;have HB1:=mkA hb1;have HG1:=mkA hg1;have HAT1:=mkA hat1;clear hv1 hb1 hg1 hat1)
              go_roundg 0
              case measure=>have:=HKQ.out;omega
              case rel =>
                have hu:Lx.wline pos (T.drop (i - 1))=([⟨6,t.b,⟨#[35]⟩,t.a - 1 + pos⟩],some p):=by
                  rw [HD.out]
                  conv=>lhs;unfold Lx.wline
                  rw [if_neg (beq_eq_false_iff_ne.mp hk),if_pos HK7.out,HP.out.1]
                  simp
                have hE1:=HE.out.1
                have hE2:=HE.out.2
                rw [hu] at hE1 hE2
                refine ⟨E ++ [⟨6,t.b,⟨#[35]⟩,t.a - 1 + pos⟩],i + 1,pos + p,true,?_,rfl,by go_num,⟨?_,by omega,by omega,.inr ⟨rfl,hE1,⟨p,hE2.symm,rfl,by omega,HPS.out⟩,rfl⟩⟩,?_,?_,(HTA.out.keep (World.grownBy_alloc _ _ none) (by simp)).keep HG1.out (fun e=>HNE.out e.symm),(by have h1:=HG1.out.size;have h2:=HGLT.out;simp at h1;omega),HBB.out.trans HB1.out,(by have h1:=HG1.out.size;simp at h1;omega)⟩
                · go_num
                · have h1:=congrArg List.length hE1
                  simp only [List.length_append,List.length_cons,List.length_nil] at h1
                  rw [List.length_append,List.length_singleton];omega
                · rw [HP.out.1,List.length_append,tokCells_app,List.length_singleton,show (p:Int) - 1 + pos=p + pos - 1 from by omega]
                  exact HV1.out
                · intro e
                  rcases HAT1.out with h | ⟨b1,h,hb1⟩
                  · exact HNE.out (h.symm.trans e)
                  · rw [e] at h
                    have h2:=Option.some.inj h
                    have h3:=HGLT.out
                    simp at hb1
                    omega
          · have hk0':=beq_iff_eq.mp hk
            have HK0:=mkA hk0'
            clear hk0'
            go_wp2_with fail
            go_roundg (N + 3 - (i + 1))
            case measure=>have:=HKQ.out;omega
            case rel =>
              have hu:Lx.wline pos (T.drop (i - 1))=Lx.wline pos (T.drop (i + 1 - 1)):=by
                rw [HD.out]
                conv=>lhs;unfold Lx.wline
                rw [if_pos HK0.out]
              have hE1:=HE.out.1
              have hE2:=HE.out.2
              rw [hu] at hE1 hE2
              refine ⟨E,i + 1,pos,false,rfl,rfl,by go_num,⟨HI.out.1,by omega,by omega,.inl ⟨rfl,rfl,hE1,hE2,rfl⟩⟩,HOWN.out.alloc _,HNE.out,?_,?_,HBB.out.alloc hbs2 _,?_⟩
              · exact HTA.out.keep (World.grownBy_alloc _ _ none) (by simp)
              · have:=HGLT.out;simp;omega
              · simp;omega
        · have hiN:i=N + 2:=by omega
          have hld:decide ((i:Int) < (N:Int) + 1 + 1)=false:=by rw [decide_eq_false_iff_not];omega
          have hnil:T.drop (i - 1)=[]:=List.drop_eq_nil_of_le (by have:=HTL.out;omega)
          rw [hnil] at hE hE2
          simp only [Lx.wline,List.append_nil] at hE hE2
          have hwd:Lx.wd s 0=E:=by
            rw [← HA.out.1,HSP.out,wd_none sp pos (by rw [HTT.out];exact hE2.symm),HTT.out,hE]
          have HWD:=mkA hwd
          clear hE hE2 hkq hwd hnil hiN
          go_wp2_with fail
          go_ret2
          exact ⟨_,rfl,by rw [HWD.out];exact HOWN.out,HBB.out⟩
      · obtain ⟨n,hn,rfl,hn0,hnz⟩:=hE2
        have hwd:E ++ Lx.wd (s.extract (pos + n) s.size) ((pos + n:Nat):Int)=Lx.wd s 0:=by
          rw [← HA.out.1,hE,HSP.out,wd_line sp pos n (by rw [HTT.out];exact hn) hn0 hnz,HTT.out,← HSP.out,ext_ext s pos n (by have:=HSPZ.out;omega),List.append_assoc]
          rfl
        have HWD:=mkA hwd
        have HN0:=mkA (And.intro hn0 hnz)
        clear hE hkq hwd hn hn0 hnz
        cases hld:decide ((i:Int) < (N:Int) + 1 + 1)
        all_goals
          go_wp2_with fail
          go_roundg (s.size + 1 - (pos + n))
          case measure=>have h1:=HA.out;have h2:=HN0.out;have h3:=HSPZ.out;omega
          case rel=>exact ⟨E,pos + n,rfl,⟨HWD.out,by have h2:=HN0.out;have h3:=HSPZ.out;omega,rfl⟩,HOWN.out,HBB.out,hbs2⟩
set_option maxRecDepth 100000 in
set_option maxHeartbeats 4000000 in
theorem refWords_no (t:Lx.Tok) (w:World) (hd:Lx.isDir t=false) :
    Calls Tryz.prog 12 #[tokV t] w fun e w'=>e=.returned (.tuple #[.slice none 0 0,.int .i64 3])∧Below w.heap.size w w':=by
  have hB1:Below w.heap.size w (w.alloc (.cells #[.int .i64 t.k,.string t.b,.string t.t,.int .i64 t.a] 29)):=(Below.refl _ _).alloc (Nat.le_refl _) _
  unfold tokV
  cases hk:(t.k != 7)
  · have hB:Lx.B t.t 0 ≠ 35:=fun e=>by
      unfold Lx.isDir at hd
      rw [e,bne_eq_false_iff_eq.mp hk] at hd
      revert hd;decide
    have HB1:=mkA hB1
    clear hd hB1
    have hge:=emptyB t.t
    by_cases h0:t.t.size=0
    · rw [decide_eq_true h0] at hge
      clear h0 hB
      go_enter Tryz.func12,Tryz.ntmps12
      go_wp2_with fail
      go_ret2
      exact ⟨rfl,HB1.out⟩
    · rw [decide_eq_false h0] at hge
      have h1:0 < t.t.size:=by omega
      have hg0:=B_get t.t 0 h1
      have hbn:(Lx.B t.t 0 != 35)=true:=bne_iff_ne.mpr hB
      clear h0 hB
      go_enter Tryz.func12,Tryz.ntmps12
      go_wp2_with fail
      go_ret2
      exact ⟨rfl,HB1.out⟩
  · clear hd
    go_enter Tryz.func12,Tryz.ntmps12
    go_wp2_with fail
    go_ret2
    exact ⟨rfl,hB1⟩
theorem refWords_calls (t:Lx.Tok) (w:World) (hs:t.t.size ≤ 20000) :
    Calls Tryz.prog 12 #[tokV t] w fun e w' => ∃ v,e=.returned (.tuple #[v,.int .i64 (if Lx.isDir t=true then 0 else 3)])∧w'.ownsRow w.heap.size 29 4 v (Lx.wdOf t).length (tokCells (Lx.wdOf t))∧Below w.heap.size w w':=by
  cases hd:Lx.isDir t
  · rw [if_neg Bool.false_ne_true]
    refine (refWords_no t w hd).mono ?_
    rintro e w' ⟨rfl,hb⟩
    exact ⟨_,rfl,by unfold Lx.wdOf;rw [hd,if_neg Bool.false_ne_true];exact own_nil _ _ _ _,hb⟩
  · rw [if_pos rfl]
    exact refWords_yes t w hs hd
namespace Lx
def kinds:List ByteArray:=[⟨#[105,102]⟩,⟨#[105,102,100,101,102]⟩,⟨#[105,102,110,100,101,102]⟩,⟨#[101,108,105,102]⟩,⟨#[101,108,115,101]⟩,⟨#[101,110,100,105,102]⟩,⟨#[100,101,102,105,110,101]⟩,⟨#[117,110,100,101,102]⟩,⟨#[105,110,99,108,117,100,101]⟩]
def kindW:List Tok → ByteArray
  | []=>⟨#[111,116,104,101,114]⟩
  | x :: _=>if Lib.containsS kinds x.t=true then x.t else ⟨#[111,116,104,101,114]⟩
def kindOf (t:Tok):ByteArray:=if t.k=7 then kindW (wdOf t) else ⟨#[]⟩
end Lx
theorem own_first {w:World} {base:Nat} {v:Value} {x:Lx.Tok} {r:List Lx.Tok} (h:w.ownsRow base 29 4 v (x :: r).length (tokCells (x :: r))):∃ g c,v=.slice (some ⟨g,0,none⟩) (r.length + 1) c∧w.cell? ⟨g,2,none⟩=some (.string x.t)∧g < w.heap.size:=by
  obtain ⟨A,c,hv⟩:=own_slice h
  have hc:=fun g=>h.cells (g:=g)
  rcases h.2 with ⟨e,hn⟩ | ⟨g,cap,cur,e,hb,hh,-⟩
  · simp at hn
  · refine ⟨g,cap,e,?_,(Array.getElem?_eq_some_iff.1 hh).1⟩
    have:=hc g (by rw [e];rfl) 2 _ (tokCells_at (x :: r) 0 x rfl).2.2.1
    rw [add_none] at this
    exact this
theorem kinds_at (w:World) (gb:Nat) (h:w.heap[gb]? = some (.cells #[.string ⟨#[105,102]⟩,.string ⟨#[105,102,100,101,102]⟩,.string ⟨#[105,102,110,100,101,102]⟩,.string ⟨#[101,108,105,102]⟩,.string ⟨#[101,108,115,101]⟩,.string ⟨#[101,110,100,105,102]⟩,.string ⟨#[100,101,102,105,110,101]⟩,.string ⟨#[117,110,100,101,102]⟩,.string ⟨#[105,110,99,108,117,100,101]⟩] 9 (0,0))) :
    ∀ j,j < Lx.kinds.length → w.cell? ⟨gb,0 + j,none⟩=some (.string (Lx.kinds.getD j ByteArray.empty)):=by
  intro j hj
  rw [blk_cell h]
  have hj9:j < 9:=hj
  match j,hj9 with
  | 0,_=>rfl
  | 1,_=>rfl
  | 2,_=>rfl
  | 3,_=>rfl
  | 4,_=>rfl
  | 5,_=>rfl
  | 6,_=>rfl
  | 7,_=>rfl
  | 8,_=>rfl
set_option maxHeartbeats 2000000 in
theorem condKind_calls (t:Lx.Tok) (w:World) (hs:t.t.size ≤ 20000) (hm:MaxLen w) (hbl:Blanks w) (h5:5 ≤ w.heap.size) :
    Calls Tryz.prog 13 #[tokV t] w fun e w'=>e=.returned (.string (Lx.kindOf t))∧Below w.heap.size w w':=by
  have hB1:Below w.heap.size w (w.alloc (.cells #[.int .i64 t.k,.string t.b,.string t.t,.int .i64 t.a] 29)):=(Below.refl _ _).alloc (Nat.le_refl _) _
  unfold Lx.kindOf tokV
  cases hk:(t.k != 7)
  · rw [if_pos (bne_eq_false_iff_eq.mp hk)]
    obtain ⟨kk,hkk⟩:∃ kk,Lx.kindW (Lx.wdOf t)=kk:=⟨_,rfl⟩
    rw [hkk]
    have hm1:=hm.belowN hB1 (by omega)
    have hbl1:=hbl.below hB1 (by omega)
    have hcw:=condWords_calls t (w.alloc (.cells #[.int .i64 t.k,.string t.b,.string t.t,.int .i64 t.a] 29)) hs hm1 hbl1 (by simp;omega)
    obtain ⟨ec,hec⟩:∃ ec:Int,(if Lx.isDir t=true then 0 else 3)=ec:=⟨_,rfl⟩
    rw [hec] at hcw
    have HCW:=mkA hcw
    have HB1:=mkA hB1
    clear hm hbl hm1 hbl1 hcw hec hB1
    cases hl:Lx.wdOf t with
    | nil =>
      rw [hl] at hkk
      have HKK:=mkA hkk
      have HL:=mkA hl
      clear hkk hl
      go_enter Tryz.func13,Tryz.ntmps13
      go_wp2_with (go_at_call 11;(refine HCW.out.mono ?_);rintro e w' ⟨v,rfl,hv,hb⟩;rw [HL.out] at hv;obtain ⟨A,c,rfl⟩:=own_slice hv;have HB:=mkA hb;clear hv hb)
      go_ret
      exact ⟨by rw [← HKK.out];rfl,HB1.out.trans (HB.out.mono (by simp))⟩
    | cons x r =>
      rw [hl] at hkk
      change (if Lib.containsS Lx.kinds x.t=true then x.t else ⟨#[111,116,104,101,114]⟩)=kk at hkk
      have HL:=mkA hl
      clear hl
      cases hc:Lib.containsS Lx.kinds x.t
      · rw [hc,if_neg Bool.false_ne_true] at hkk
        have HKK:=mkA hkk
        clear hkk
        go_enter Tryz.func13,Tryz.ntmps13
        go_wp2_with (first | (go_at_call 11;(refine HCW.out.mono ?_);rintro e w' ⟨v,rfl,hv,hb⟩;rw [HL.out] at hv;obtain ⟨g,c,rfl,hcell,hgl⟩:=own_first hv;have HB:=mkA hb;clear hv hb) | (go_at_call 42;(refine (Tryz.slices_Contains_string _ 0 9 9 Lx.kinds x.t _ (by decide) (by omega) ?_).mono ?_);exact kinds_at _ _ (blk_new_at w' _ _ rfl);rintro e w2 ⟨rfl,rfl⟩;rw [show List.take 9 Lx.kinds=Lx.kinds from rfl,hc]))
        go_ret
        exact ⟨by rw [← HKK.out];rfl,(HB1.out.trans (HB.out.mono (by simp))).alloc (by have h1:=HB.out.size;simp at h1;omega) _⟩
      · rw [hc,if_pos rfl] at hkk
        have HKK:=mkA hkk
        clear hkk
        go_enter Tryz.func13,Tryz.ntmps13
        go_wp2_with (first | (go_at_call 11;(refine HCW.out.mono ?_);rintro e w' ⟨v,rfl,hv,hb⟩;rw [HL.out] at hv;obtain ⟨g,c,rfl,hcell,hgl⟩:=own_first hv;have HB:=mkA hb;clear hv hb) | (go_at_call 42;(refine (Tryz.slices_Contains_string _ 0 9 9 Lx.kinds x.t _ (by decide) (by omega) ?_).mono ?_);exact kinds_at _ _ (blk_new_at w' _ _ rfl);rintro e w2 ⟨rfl,rfl⟩;rw [show List.take 9 Lx.kinds=Lx.kinds from rfl,hc]))
        go_ret
        exact ⟨by rw [← HKK.out];rfl,(HB1.out.trans (HB.out.mono (by simp))).alloc (by have h1:=HB.out.size;simp at h1;omega) _⟩
  · rw [if_neg (bne_iff_ne.mp hk)]
    go_enter Tryz.func13,Tryz.ntmps13
    go_wp2_with fail
    go_ret
    exact ⟨rfl,hB1⟩
theorem kinds_strs {w:World} {gb:Nat} (h:∀ j,j < Lx.kinds.length → w.cell? ⟨gb,0 + j,none⟩=some (.string (Lx.kinds.getD j ByteArray.empty))):StrsAt w gb Lx.kinds:=fun i g hi=>by
  have hl:i < Lx.kinds.length:=(List.getElem?_eq_some_iff.1 hi).1
  have:=h i hl
  rw [Nat.zero_add,List.getD_eq_getElem?_getD,hi] at this
  exact this
set_option maxHeartbeats 2000000 in
theorem refKind_calls (t:Lx.Tok) (w:World) (hs:t.t.size ≤ 20000) :
    Calls Tryz.prog 14 #[tokV t] w fun e w'=>e=.returned (.string (Lx.kindOf t))∧Below w.heap.size w w':=by
  have hB1:Below w.heap.size w (w.alloc (.cells #[.int .i64 t.k,.string t.b,.string t.t,.int .i64 t.a] 29)):=(Below.refl _ _).alloc (Nat.le_refl _) _
  unfold Lx.kindOf tokV
  cases hk:(t.k != 7)
  · rw [if_pos (bne_eq_false_iff_eq.mp hk)]
    obtain ⟨kk,hkk⟩:∃ kk,Lx.kindW (Lx.wdOf t)=kk:=⟨_,rfl⟩
    rw [hkk]
    have hcw:=refWords_calls t (w.alloc (.cells #[.int .i64 t.k,.string t.b,.string t.t,.int .i64 t.a] 29)) hs
    have HB1:=mkA hB1
    cases hd:Lx.isDir t
    · rw [hd,if_neg Bool.false_ne_true] at hcw
      have hl:Lx.wdOf t=[]:=if_neg (by rw [hd];decide)
      have HCW:=mkA hcw
      rw [hl] at hkk
      have HKK:=mkA hkk
      have HL:=mkA hl
      clear hkk hl hcw hB1 hd
      go_enter Tryz.func14,Tryz.ntmps14
      go_wp2_with (go_at_call 12;(refine HCW.out.mono ?_);rintro e w' ⟨v,rfl,hv,hb⟩;rw [HL.out] at hv;obtain ⟨A,c,rfl⟩:=own_slice hv;have HB:=mkA hb;clear hv hb)
      go_ret
      exact ⟨by rw [← HKK.out];rfl,HB1.out.trans (HB.out.mono (by simp))⟩
    · rw [hd,if_pos rfl] at hcw
      have HCW:=mkA hcw
      clear hcw hB1 hd
      cases hl:Lx.wdOf t with
      | nil =>
        rw [hl] at hkk
        have HKK:=mkA hkk
        have HL:=mkA hl
        clear hkk hl
        go_enter Tryz.func14,Tryz.ntmps14
        go_wp2_with (go_at_call 12;(refine HCW.out.mono ?_);rintro e w' ⟨v,rfl,hv,hb⟩;rw [HL.out] at hv;obtain ⟨A,c,rfl⟩:=own_slice hv;have HB:=mkA hb;clear hv hb)
        go_ret
        exact ⟨by rw [← HKK.out];rfl,HB1.out.trans (HB.out.mono (by simp))⟩
      | cons x r =>
        rw [hl] at hkk
        change (if Lib.containsS Lx.kinds x.t=true then x.t else ⟨#[111,116,104,101,114]⟩)=kk at hkk
        have HL:=mkA hl
        clear hl
        have hr1:((r.length:Int) + 1 == 0)=false:=by rw [beq_eq_false_iff_ne];omega
        cases hc:Lib.containsS Lx.kinds x.t
        · rw [hc,if_neg Bool.false_ne_true] at hkk
          have HKK:=mkA hkk
          clear hkk
          go_enter Tryz.func14,Tryz.ntmps14
          go_wp2_with (first | (go_at_call 12;(refine HCW.out.mono ?_);rintro e w' ⟨v,rfl,hv,hb⟩;rw [HL.out] at hv;obtain ⟨g,c,rfl,hcell,hgl⟩:=own_first hv;have HB:=mkA hb;clear hv hb) | (go_at_call 38;(refine (has_calls _ 9 Lx.kinds x.t _ ?_ rfl (by decide)).mono ?_);exact kinds_strs (kinds_at _ _ (blk_new_at w' _ _ rfl));rintro e w2 ⟨⟨rr,rfl,hrr⟩,rfl⟩;have hrd:decide (0 ≤ rr)=Lib.containsS Lx.kinds x.t:=(by rw [Bool.eq_iff_iff,decide_eq_true_eq,Lib.containsS_iff];exact hrr);rw [hc] at hrd;clear hrr))
          go_ret
          exact ⟨by rw [← HKK.out];rfl,(HB1.out.trans (HB.out.mono (by simp))).alloc (by have h1:=HB.out.size;simp at h1;omega) _⟩
        · rw [hc,if_pos rfl] at hkk
          have HKK:=mkA hkk
          clear hkk
          go_enter Tryz.func14,Tryz.ntmps14
          go_wp2_with (first | (go_at_call 12;(refine HCW.out.mono ?_);rintro e w' ⟨v,rfl,hv,hb⟩;rw [HL.out] at hv;obtain ⟨g,c,rfl,hcell,hgl⟩:=own_first hv;have HB:=mkA hb;clear hv hb) | (go_at_call 38;(refine (has_calls _ 9 Lx.kinds x.t _ ?_ rfl (by decide)).mono ?_);exact kinds_strs (kinds_at _ _ (blk_new_at w' _ _ rfl));rintro e w2 ⟨⟨rr,rfl,hrr⟩,rfl⟩;have hrd:decide (0 ≤ rr)=Lib.containsS Lx.kinds x.t:=(by rw [Bool.eq_iff_iff,decide_eq_true_eq,Lib.containsS_iff];exact hrr);rw [hc] at hrd;clear hrr))
          go_ret
          exact ⟨by rw [← HKK.out];rfl,(HB1.out.trans (HB.out.mono (by simp))).alloc (by have h1:=HB.out.size;simp at h1;omega) _⟩
  · rw [if_neg (bne_iff_ne.mp hk)]
    go_enter Tryz.func14,Tryz.ntmps14
    go_wp2_with fail
    go_ret
    exact ⟨rfl,hB1⟩
def IntAt (w:World) (g o:Nat) (L:List Int):Prop:=∀ i t,L[i]? = some t → w.cell? ⟨g,o + i,none⟩=some (.int .i64 t)
def Ints (w:World) (v:Value) (L:List Int):Prop:=∃ A c,v=.slice A L.length c∧L.length ≤ c∧c ≤ maxLen∧(L=[] ∨ ∃ g o,A=some ⟨g,o,none⟩∧IntAt w g o L∧g < w.heap.size)
def intCells (l:List Int):List Value:=l.map fun x => .int .i64 x
theorem own_ints {w:World} {base:Nat} {v:Value} {L:List Int} (h:w.ownsRow base 3 1 v L.length (intCells L)):Ints w v L:=by
  have hc:=fun g=>h.cells (g:=g)
  rcases h.2 with ⟨rfl,hx⟩ | ⟨g,cap,cur,rfl,hb,hh,h1,h2,-,-⟩
  · exact ⟨none,0,by rw [hx],by omega,Nat.zero_le _,.inl (List.eq_nil_of_length_eq_zero hx)⟩
  · refine ⟨_,cap,rfl,h1,h2,.inr ⟨g,0,rfl,?_,(Array.getElem?_eq_some_iff.1 hh).1⟩⟩
    intro i t ht
    have:=hc g rfl i _ (by unfold intCells;rw [List.getElem?_map,ht];rfl)
    rw [add_none] at this
    exact this
theorem IntAt.below {w w':World} {g o:Nat} {L:List Int} (h:IntAt w g o L) (hb:Below w.heap.size w w') (hg:g < w.heap.size):IntAt w' g o L:=fun i t ht=>(hb.cell hg).trans (h i t ht)
theorem Ints.below {w w':World} {v:Value} {L:List Int} (h:Ints w v L) (hb:Below w.heap.size w w'):Ints w' v L:=by
  obtain ⟨A,c,e,h1,h2,h3⟩:=h
  refine ⟨A,c,e,h1,h2,h3.imp id ?_⟩
  rintro ⟨g,o,e2,h4,h5⟩
  exact ⟨g,o,e2,h4.below hb h5,Nat.lt_of_lt_of_le h5 hb.size⟩
theorem eqInts_calls (v1 v2:Value) (L:List Int) (w:World) (hn2:L.length ≤ 1000000) (h1:Ints w v1 L) (h2:Ints w v2 L) :
    Calls Tryz.prog 18 #[v1,v2] w fun e w'=>e=.returned (.bool true)∧Drawn0 w w':=by
  obtain ⟨A1,c1,rfl,-,-,h1⟩:=h1
  obtain ⟨A2,c2,rfl,-,-,h2⟩:=h2
  obtain ⟨n,hn⟩:∃ n,L.length=n:=⟨_,rfl⟩
  rw [hn] at hn2 ⊢
  have HN:=mkA hn
  have H1:=mkA h1
  have H2:=mkA h2
  clear h1 h2 hn
  go_enter Tryz.func18,Tryz.ntmps18
  go_wp2_with fail
  go_loopg [5] n (fun kq v5 w' => ∃ i:Nat,v5=.int .i64 i∧Aside0 (i ≤ n∧kq=n - i)∧Drawn0 w w')
  case atStart=>exact ⟨0,rfl,⟨by omega,rfl⟩,Drawn0.refl _⟩
  case round =>
    obtain ⟨i,rfl,HA,⟨m,rfl⟩⟩:=hrel
    have hi:=HA.out.1
    by_cases hlt:i < n
    · obtain ⟨t,ht⟩:∃ t,L[i]? = some t:=⟨_,List.getElem?_eq_getElem (by have:=HN.out;omega)⟩
      have hne:L ≠ []:=fun e=>by rw [e] at ht;simp at ht
      obtain ⟨g1,o1,rfl,k1,-⟩:=H1.out.resolve_left hne
      obtain ⟨g2,o2,rfl,k2,-⟩:=H2.out.resolve_left hne
      have a0:=k1 i t ht
      have b0:=k2 i t ht
      clear k1 k2 H1 H2 ht hne
      go_wp2
      go_quiet (fail)
      go_wp2_with fail
      go_roundg (n - (i + 1))
      case measure=>have:=HA.out;omega
      case rel=>exact ⟨i + 1,by go_num,⟨by omega,rfl⟩,(by repeat (first | exact Drawn0.refl _ | assumption | apply Drawn0.step))⟩
    · obtain rfl:i=n:=by omega
      go_wp2_with fail
      go_ret
      exact ⟨by simp,(by repeat (first | exact Drawn0.refl _ | assumption | apply Drawn0.step))⟩
theorem scanned_long (s:ByteArray) (w:World) (h:3000 < s.size) :
    Calls Tryz.prog 10 #[.string s] w fun e w'=>e=.returned (.tuple #[.slice none 0 0,.bool false])∧w=w':=by
  have h1:decide ((3000:Int) < (s.size:Int))=true:=by rw [decide_eq_true_eq];omega
  go_enter Tryz.func10,Tryz.ntmps10
  go_wp2_with fail
  go_ret2
  exact ⟨rfl,rfl⟩
theorem scanned_calls (s:ByteArray) (w:World) (h:s.size ≤ 3000) :
    Calls Tryz.prog 10 #[.string s] w fun e w' => ∃ v,e=.returned (.tuple #[v,.bool true])∧w'.ownsRow w.heap.size 29 4 v (Lx.scan s).length (tokCells (Lx.scan s))∧Below w.heap.size w w':=by
  have h1:decide ((3000:Int) < (s.size:Int))=false:=by rw [decide_eq_false_iff_not];omega
  go_enter Tryz.func10,Tryz.ntmps10
  go_wp2_with (go_at_call 39;(refine (scanr_calls s _ (by omega)).mono ?_);rintro e w' ⟨v,rfl,hv,hb⟩;have HV:=mkA hv;have HB:=mkA hb;clear hv hb)
  go_ret2
  exact ⟨_,rfl,HV.out,HB.out⟩
namespace Lx
def sIf:List UInt8:=[105,102]
def sIfdef:List UInt8:=[105,102,100,101,102]
def sIfndef:List UInt8:=[105,102,110,100,101,102]
def sElif:List UInt8:=[101,108,105,102]
def sElse:List UInt8:=[101,108,115,101]
def sEndif:List UInt8:=[101,110,100,105,102]
def opens (k:ByteArray):Bool:=k.toList == sIf || k.toList == sIfdef || k.toList == sIfndef
end Lx
theorem opens_calls (k:ByteArray) (w:World) :
    Calls Tryz.prog 43 #[.string k] w fun e w'=>e=.returned (.bool (Lx.opens k))∧w=w':=by
  unfold Lx.opens
  obtain ⟨a,ha⟩:∃ a,(k.toList == Lx.sIf)=a:=⟨_,rfl⟩
  obtain ⟨b,hb⟩:∃ b,(k.toList == Lx.sIfdef)=b:=⟨_,rfl⟩
  obtain ⟨c,hc⟩:∃ c,(k.toList == Lx.sIfndef)=c:=⟨_,rfl⟩
  rw [ha,hb,hc]
  unfold Lx.sIf at ha
  unfold Lx.sIfdef at hb
  unfold Lx.sIfndef at hc
  cases a <;> cases b <;> cases c
  all_goals
    go_enter Tryz.func43,Tryz.ntmps43
    go_wp2_with fail
    go_ret
    exact ⟨by simp,rfl⟩
theorem opensr_calls (k:ByteArray) (w:World) :
    Calls Tryz.prog 45 #[.string k] w fun e w'=>e=.returned (.bool (Lx.opens k))∧w=w':=by
  unfold Lx.opens
  obtain ⟨a,ha⟩:∃ a,(k.toList == Lx.sIf)=a:=⟨_,rfl⟩
  obtain ⟨b,hb⟩:∃ b,(k.toList == Lx.sIfdef)=b:=⟨_,rfl⟩
  obtain ⟨c,hc⟩:∃ c,(k.toList == Lx.sIfndef)=c:=⟨_,rfl⟩
  rw [ha,hb,hc]
  unfold Lx.sIf at ha
  unfold Lx.sIfdef at hb
  unfold Lx.sIfndef at hc
  cases a <;> cases b <;> cases c
  all_goals
    go_enter Tryz.func45,Tryz.ntmps45
    go_wp2_with fail
    go_ret
    exact ⟨by simp,rfl⟩
namespace Lx
structure G where
  lines:List Int
  br:Int
  par:Int
  bch:Int
structure GS where
  gs:List G
  st:List (Nat × Nat × Bool)
def closes (k:ByteArray):Bool:=k.toList == sElif || k.toList == sElse || k.toList == sEndif
def gstep (c:Int) (S:GS) (k:ByteArray) (i:Nat):Option GS :=
  if opens k=true then
    match S.st with
    | []=>some ⟨S.gs ++ [⟨[(i:Int)],c,-1,0⟩],[(S.gs.length,0,false)]⟩
    | (n,b,e) :: r=>some ⟨S.gs ++ [⟨[(i:Int)],c,n,b⟩],(S.gs.length,0,false) :: (n,b,e) :: r⟩
  else if closes k=true then
    match S.st with
    | []=>none
    | (n,b,e) :: r =>
      if (e && !(k.toList == sEndif))=true then none
      else if (k.toList == sEndif)=true then
        some ⟨S.gs.modify n fun g=>⟨g.lines ++ [(i:Int)],(g.lines.length:Int) + (if e=true then 0 else 1),g.par,g.bch⟩,r⟩
      else some ⟨S.gs.modify n fun g=>⟨g.lines ++ [(i:Int)],g.br,g.par,g.bch⟩,(n,b + 1,k.toList == sElse) :: r⟩
  else some S
def grun (c:Int):GS → List ByteArray → Nat → GS ⊕ Nat
  | S,[],_ => .inl S
  | S,k :: r,i=>match gstep c S k i with | none => .inr i | some T=>grun c T r (i + 1)
def Near (S T:GS):Prop:=S.st=T.st∧S.gs.length=T.gs.length∧∀ (i:Nat) (g h:G),S.gs[i]? = some g → T.gs[i]? = some h → g.lines=h.lines∧g.par=h.par∧g.bch=h.bch∧(g.br=h.br ∨ ∃ p ∈ S.st,p.1=i)
theorem near_step (c d:Int) (S T:GS) (k:ByteArray) (i:Nat) (h:Near S T):(gstep c S k i=none∧gstep d T k i=none) ∨ ∃ S' T',gstep c S k i=some S'∧gstep d T k i=some T'∧Near S' T':=by
  obtain ⟨h1,h2,h3⟩:=h
  unfold gstep
  rw [← h1]
  by_cases ho:opens k=true
  · rw [if_pos ho,if_pos ho]
    rcases hs:S.st with _ | ⟨⟨n,b,e⟩,r⟩
    · refine .inr ⟨_,_,rfl,rfl,by simp [h2],by simp [h2],?_⟩
      intro j g g' hg hg'
      dsimp only at hg hg' ⊢
      by_cases hj:j < S.gs.length
      · rw [List.getElem?_append_left hj] at hg
        rw [List.getElem?_append_left (by omega)] at hg'
        obtain ⟨a1,a2,a3,a4⟩:=h3 j g g' hg hg'
        refine ⟨a1,a2,a3,a4.imp id ?_⟩
        rintro ⟨p,hp,-⟩
        rw [hs] at hp;simp at hp
      · rw [List.getElem?_append_right (by omega)] at hg
        rw [List.getElem?_append_right (by omega),← h2] at hg'
        have hj0:j - S.gs.length=0:=by
          have:=(List.getElem?_eq_some_iff.1 hg).1
          simp at this;omega
        rw [hj0] at hg hg'
        simp at hg hg'
        subst hg hg'
        exact ⟨rfl,rfl,rfl,.inr ⟨_,by simp;rfl,by simp;omega⟩⟩
    · refine .inr ⟨_,_,rfl,rfl,by simp [h2],by simp [h2],?_⟩
      intro j g g' hg hg'
      dsimp only at hg hg' ⊢
      by_cases hj:j < S.gs.length
      · rw [List.getElem?_append_left hj] at hg
        rw [List.getElem?_append_left (by omega)] at hg'
        obtain ⟨a1,a2,a3,a4⟩:=h3 j g g' hg hg'
        refine ⟨a1,a2,a3,a4.imp id ?_⟩
        rintro ⟨p,hp,e2⟩
        rw [hs] at hp
        exact ⟨p,List.mem_cons_of_mem _ hp,e2⟩
      · rw [List.getElem?_append_right (by omega)] at hg
        rw [List.getElem?_append_right (by omega),← h2] at hg'
        have hj0:j - S.gs.length=0:=by
          have:=(List.getElem?_eq_some_iff.1 hg).1
          simp at this;omega
        rw [hj0] at hg hg'
        simp at hg hg'
        subst hg hg'
        exact ⟨rfl,rfl,rfl,.inr ⟨_,List.mem_cons_self,by dsimp only;omega⟩⟩
  · rw [if_neg ho,if_neg ho]
    by_cases hc:closes k=true
    · rw [if_pos hc,if_pos hc]
      rcases hs:S.st with _ | ⟨⟨n,b,e⟩,r⟩
      · exact .inl ⟨rfl,rfl⟩
      · dsimp only
        by_cases h5:(e && !(k.toList == sEndif))=true
        · rw [if_pos h5,if_pos h5];exact .inl ⟨rfl,rfl⟩
        · rw [if_neg h5,if_neg h5]
          by_cases h6:(k.toList == sEndif)=true
          · rw [if_pos h6,if_pos h6]
            refine .inr ⟨_,_,rfl,rfl,rfl,by simp [h2],?_⟩
            intro j g g' hg hg'
            dsimp only at hg hg' ⊢
            rw [List.getElem?_modify] at hg hg'
            obtain ⟨g0,e0,rfl⟩:=Option.map_eq_some_iff.1 hg
            obtain ⟨g1,e1,rfl⟩:=Option.map_eq_some_iff.1 hg'
            obtain ⟨a1,a2,a3,a4⟩:=h3 j g0 g1 e0 e1
            by_cases hn:n=j
            · rw [if_pos hn,if_pos hn]
              exact ⟨by rw [a1],a2,a3,.inl (by rw [a1])⟩
            · rw [if_neg hn,if_neg hn]
              refine ⟨a1,a2,a3,a4.imp id ?_⟩
              rintro ⟨p,hp,e2⟩
              rw [hs] at hp
              rcases List.mem_cons.1 hp with rfl | hp
              · exact absurd e2 hn
              · exact ⟨p,hp,e2⟩
          · rw [if_neg h6,if_neg h6]
            refine .inr ⟨_,_,rfl,rfl,rfl,by simp [h2],?_⟩
            intro j g g' hg hg'
            dsimp only at hg hg' ⊢
            rw [List.getElem?_modify] at hg hg'
            obtain ⟨g0,e0,rfl⟩:=Option.map_eq_some_iff.1 hg
            obtain ⟨g1,e1,rfl⟩:=Option.map_eq_some_iff.1 hg'
            obtain ⟨a1,a2,a3,a4⟩:=h3 j g0 g1 e0 e1
            by_cases hn:n=j
            · rw [if_pos hn,if_pos hn]
              exact ⟨by rw [a1],a2,a3,.inr ⟨_,List.mem_cons_self,hn⟩⟩
            · rw [if_neg hn,if_neg hn]
              refine ⟨a1,a2,a3,a4.imp id ?_⟩
              rintro ⟨p,hp,e2⟩
              rw [hs] at hp
              rcases List.mem_cons.1 hp with rfl | hp
              · exact absurd e2 hn
              · exact ⟨p,List.mem_cons_of_mem _ hp,e2⟩
    · rw [if_neg hc,if_neg hc]
      exact .inr ⟨_,_,rfl,rfl,h1,h2,h3⟩
theorem near_run (c d:Int) (ks:List ByteArray):∀ (S T:GS) (i:Nat),Near S T → (∃ n,grun c S ks i=.inr n∧grun d T ks i=.inr n) ∨ ∃ S' T',grun c S ks i=.inl S'∧grun d T ks i=.inl T'∧Near S' T':=by
  induction ks with
  | nil=>exact fun S T i h => .inr ⟨S,T,rfl,rfl,h⟩
  | cons k r ih =>
    intro S T i h
    unfold grun
    rcases near_step c d S T k i h with ⟨e1,e2⟩ | ⟨S',T',e1,e2,h'⟩
    · rw [e1,e2];exact .inl ⟨i,rfl,rfl⟩
    · rw [e1,e2];exact ih S' T' (i + 1) h'
end Lx
namespace Lx
def gs0:GS:=⟨[],[]⟩
def nOpens:List ByteArray → Nat
  | []=>0
  | k :: r=>(if opens k=true then 1 else 0) + nOpens r
theorem nOpens_le (ks:List ByteArray):nOpens ks ≤ ks.length:=by
  induction ks with
  | nil=>exact Nat.le_refl _
  | cons k r ih=>unfold nOpens;simp only [List.length_cons];split <;> omega
theorem nOpens_snoc (ks:List ByteArray) (k:ByteArray):nOpens (ks ++ [k])=nOpens ks + (if opens k=true then 1 else 0):=by
  induction ks with
  | nil=>simp [nOpens]
  | cons x r ih=>simp only [List.cons_append,nOpens,ih];omega
def firstLine (S:GS):Int:=match S.st with
  | []=>0
  | (n,_,_) :: _=>match S.gs[n]? with | some g=>g.lines.headD 0 | none=>0
def groupsC (c:Int) (ks:List ByteArray):List G × Int × Int :=
  if 200 < nOpens ks then ([],2,0) else
  match grun c gs0 ks 0 with
  | .inr i=>([],30,(i:Int))
  | .inl S=>if S.st.isEmpty=true then (S.gs,0,0) else ([],30,firstLine S)
def groups (ks:List ByteArray):List G × Int × Int:=groupsC 0 ks
theorem gstep_len (c:Int) (S T:GS) (k:ByteArray) (i:Nat) (h:gstep c S k i=some T):S.gs.length ≤ T.gs.length∧T.gs.length ≤ S.gs.length + 1:=by
  unfold gstep at h
  split at h
  · split at h <;> cases h <;> simp
  · split at h
    · split at h
      · cases h
      · split at h
        · cases h
        · split at h <;> cases h <;> simp
    · cases h;simp
theorem lines_step (c:Int) (S T:GS) (k:ByteArray) (i:Nat) (h:gstep c S k i=some T) (m:Nat) (hS:∀ g ∈ S.gs,g.lines.length ≤ m):∀ g ∈ T.gs,g.lines.length ≤ m + 1:=by
  have hmod:∀ (n:Nat) (F:G → G),(∀ g,(F g).lines.length=g.lines.length + 1) → ∀ g ∈ S.gs.modify n F,g.lines.length ≤ m + 1:=by
    intro n F hF g hg
    obtain ⟨j,hj⟩:=List.mem_iff_getElem?.1 hg
    rw [List.getElem?_modify] at hj
    obtain ⟨g0,h0,rfl⟩:=Option.map_eq_some_iff.1 hj
    have:=hS g0 (List.mem_iff_getElem?.2 ⟨j,h0⟩)
    split
    · rw [hF];omega
    · omega
  have hpush:∀ x:G,x.lines.length=1 → ∀ g ∈ S.gs ++ [x],g.lines.length ≤ m + 1:=by
    intro x hx g hg
    rcases List.mem_append.1 hg with hg | hg
    · have:=hS g hg;omega
    · rw [List.mem_singleton.1 hg,hx];omega
  unfold gstep at h
  split at h
  · split at h <;> cases h <;> exact hpush _ rfl
  · split at h
    · split at h
      · cases h
      · split at h
        · cases h
        · split at h <;> cases h
          · exact hmod _ _ (fun g=>by simp)
          · exact hmod _ _ (fun g=>by simp)
    · cases h;exact fun g hg=>Nat.le_succ_of_le (hS g hg)
structure Good (S:GS):Prop where
  ne:∀ g ∈ S.gs,g.lines ≠ []
  lt:∀ p ∈ S.st,p.1 < S.gs.length
  desc:S.st.Pairwise fun p q=>q.1 < p.1
  len:∀ p ∈ S.st,∀ g,S.gs[p.1]? = some g → g.lines.length=p.2.1 + 1
theorem good0:Good gs0:=⟨by simp [gs0],by simp [gs0],by simp [gs0],by simp [gs0]⟩
theorem good_push (c:Int) (S:GS) (h:Good S) (g:G) (hg:g.lines.length=1):Good ⟨S.gs ++ [g],(S.gs.length,0,false) :: S.st⟩:=by
  constructor
  · intro x hx
    rcases List.mem_append.1 hx with hx | hx
    · exact h.ne x hx
    · rw [List.mem_singleton.1 hx];intro e;rw [e] at hg;simp at hg
  · intro p hp
    simp only [List.length_append,List.length_singleton]
    rcases List.mem_cons.1 hp with rfl | hp
    · exact Nat.lt_succ_self _
    · exact Nat.lt_succ_of_lt (h.lt p hp)
  · exact List.pairwise_cons.2 ⟨fun q hq=>h.lt q hq,h.desc⟩
  · intro p hp x hx
    rcases List.mem_cons.1 hp with rfl | hp
    · dsimp only at hx
      rw [List.getElem?_append_right (Nat.le_refl _),Nat.sub_self] at hx
      simp at hx;subst hx;exact hg
    · dsimp only at hx
      rw [List.getElem?_append_left (h.lt p hp)] at hx
      exact h.len p hp x hx
theorem good_modify (S:GS) (h:Good S) (n b:Nat) (e:Bool) (r:List (Nat × Nat × Bool)) (hs:S.st=(n,b,e) :: r) (F:G → G) (hF:∀ g,(F g).lines.length=g.lines.length + 1) :
    Good ⟨S.gs.modify n F,r⟩∧∀ e',Good ⟨S.gs.modify n F,(n,b + 1,e') :: r⟩:=by
  have hd:=h.desc
  rw [hs] at hd
  have hd1:=(List.pairwise_cons.1 hd).1
  have hd2:=(List.pairwise_cons.1 hd).2
  have hne:∀ g ∈ S.gs.modify n F,g.lines ≠ []:=by
    intro g hg
    obtain ⟨i,hi⟩:=List.mem_iff_getElem?.1 hg
    rw [List.getElem?_modify] at hi
    obtain ⟨g0,h0,rfl⟩:=Option.map_eq_some_iff.1 hi
    split
    · intro e;have:=hF g0;rw [e] at this;simp at this
    · exact h.ne g0 (List.mem_iff_getElem?.2 ⟨i,h0⟩)
  have hlen:∀ p ∈ r,∀ g,(S.gs.modify n F)[p.1]? = some g → g.lines.length=p.2.1 + 1:=by
    intro p hp g hg
    have hpn:=hd1 p hp
    dsimp only at hpn
    rw [List.getElem?_modify] at hg
    obtain ⟨g0,h0,rfl⟩:=Option.map_eq_some_iff.1 hg
    rw [if_neg (by omega)]
    exact h.len p (by rw [hs];exact List.mem_cons_of_mem _ hp) _ h0
  refine ⟨⟨hne,?_,hd2,hlen⟩,fun e'=>⟨hne,?_,List.pairwise_cons.2 ⟨hd1,hd2⟩,?_⟩⟩
  · intro p hp;dsimp only;rw [List.length_modify];exact h.lt p (by rw [hs];exact List.mem_cons_of_mem _ hp)
  · intro p hp;dsimp only;rw [List.length_modify]
    rcases List.mem_cons.1 hp with rfl | hp
    · exact h.lt (n,b,e) (by rw [hs];exact List.mem_cons_self)
    · exact h.lt p (by rw [hs];exact List.mem_cons_of_mem _ hp)
  · intro p hp g hg
    rcases List.mem_cons.1 hp with rfl | hp
    · dsimp only at hg ⊢
      rw [List.getElem?_modify] at hg
      obtain ⟨g0,h0,rfl⟩:=Option.map_eq_some_iff.1 hg
      rw [if_pos rfl]
      have:=h.len (n,b,e) (by rw [hs];exact List.mem_cons_self) g0 h0
      dsimp only at this
      rw [hF,this]
    · exact hlen p hp g hg
theorem good_step (c:Int) (S T:GS) (k:ByteArray) (i:Nat) (h:gstep c S k i=some T) (hS:Good S):Good T:=by
  unfold gstep at h
  split at h
  · rcases hs:S.st with _ | ⟨⟨n,b,e⟩,r⟩
    · rw [hs] at h;cases h
      have:=good_push c S hS ⟨[(i:Int)],c,-1,0⟩ rfl
      rw [hs] at this;exact this
    · rw [hs] at h;cases h
      have:=good_push c S hS ⟨[(i:Int)],c,n,b⟩ rfl
      rw [hs] at this;exact this
  · split at h
    · rcases hs:S.st with _ | ⟨⟨n,b,e⟩,r⟩
      · rw [hs] at h;cases h
      · rw [hs] at h
        dsimp only at h
        split at h
        · cases h
        · split at h
          · cases h;exact (good_modify S hS n b e r hs _ (fun g=>by simp)).1
          · cases h;exact (good_modify S hS n b e r hs _ (fun g=>by simp)).2 _
    · cases h;exact hS
def Sm (S:GS) (i:Nat):Prop:=S.gs.length ≤ i∧∀ g ∈ S.gs,g.lines.length ≤ i∧∀ x ∈ g.lines,0 ≤ x∧x < (i:Int)
theorem sm0:Sm gs0 0:=⟨by simp [gs0],by simp [gs0]⟩
theorem sm_step (c:Int) (S T:GS) (k:ByteArray) (i:Nat) (h:gstep c S k i=some T) (hS:Sm S i):Sm T (i + 1):=by
  refine ⟨by have:=(gstep_len c S T k i h).2;have:=hS.1;omega,fun g hg=>⟨lines_step c S T k i h i (fun g hg=>(hS.2 g hg).1) g hg,?_⟩⟩
  have hold:∀ g ∈ S.gs,∀ x ∈ g.lines,0 ≤ x∧x < ((i + 1:Nat):Int):=fun g hg x hx=>by have:=(hS.2 g hg).2 x hx;omega
  have hmod:∀ (n:Nat) (F:G → G),(∀ g,(F g).lines=g.lines ++ [(i:Int)]) → ∀ g ∈ S.gs.modify n F,∀ x ∈ g.lines,0 ≤ x∧x < ((i + 1:Nat):Int):=by
    intro n F hF g hg x hx
    obtain ⟨j,hj⟩:=List.mem_iff_getElem?.1 hg
    rw [List.getElem?_modify] at hj
    obtain ⟨g0,h0,rfl⟩:=Option.map_eq_some_iff.1 hj
    have hm:=List.mem_iff_getElem?.2 ⟨j,h0⟩
    split at hx
    · rw [hF] at hx
      rcases List.mem_append.1 hx with hx | hx
      · exact hold g0 hm x hx
      · rw [List.mem_singleton.1 hx];omega
    · exact hold g0 hm x hx
  have hpush:∀ y:G,y.lines=[(i:Int)] → ∀ g ∈ S.gs ++ [y],∀ x ∈ g.lines,0 ≤ x∧x < ((i + 1:Nat):Int):=by
    intro y hy g hg x hx
    rcases List.mem_append.1 hg with hg | hg
    · exact hold g hg x hx
    · rw [List.mem_singleton.1 hg,hy] at hx;rw [List.mem_singleton.1 hx];omega
  revert hg
  unfold gstep at h
  split at h
  · split at h <;> cases h <;> exact hpush _ rfl g
  · split at h
    · split at h
      · cases h
      · split at h
        · cases h
        · split at h <;> cases h
          · exact hmod _ _ (fun g=>rfl) g
          · exact hmod _ _ (fun g=>rfl) g
    · cases h;exact hold g
theorem sm_run (c:Int):∀ (ks:List ByteArray) (S T:GS) (i:Nat),grun c S ks i=.inl T → Sm S i → Sm T (i + ks.length)
  | [],S,T,i,h,hS=>by unfold grun at h;cases h;exact hS
  | k :: r,S,T,i,h,hS=>by
    unfold grun at h
    cases hg:gstep c S k i with
    | none=>rw [hg] at h;cases h
    | some U =>
      rw [hg] at h
      have:=sm_run c r U T (i + 1) h (sm_step c S U k i hg hS)
      rw [List.length_cons,show i + (r.length + 1)=i + 1 + r.length by omega]
      exact this
def Small (gs:List G):Prop:=gs.length ≤ 100000∧∀ g ∈ gs,g.lines.length ≤ 100000∧∀ x ∈ g.lines,0 ≤ x∧x ≤ 100000
theorem groups_small (c:Int) (ks:List ByteArray) (h:ks.length ≤ 100000):Small (groupsC c ks).1:=by
  have h0:Small []:=⟨by simp,by simp⟩
  unfold groupsC
  split
  · exact h0
  · cases hg:grun c gs0 ks 0 with
    | inr i=>exact h0
    | inl S =>
      dsimp only
      split
      · have:=sm_run c ks gs0 S 0 hg sm0
        refine ⟨by have:=this.1;dsimp only;omega,fun g hg=>⟨by have:=(this.2 g hg).1;omega,fun x hx=>by have:=(this.2 g hg).2 x hx;omega⟩⟩
      · exact h0
theorem near0:Near gs0 gs0:=⟨rfl,rfl,fun i g h a b=>by simp [gs0] at a⟩
theorem groups_same (c:Int) (ks:List ByteArray):groupsC c ks=groups ks:=by
  unfold groups groupsC
  split
  · rfl
  · rcases near_run c 0 ks gs0 gs0 0 near0 with ⟨n,e1,e2⟩ | ⟨S,T,e1,e2,h1,h2,h3⟩
    · rw [e1,e2]
    · rw [e1,e2]
      dsimp only
      rw [← h1]
      split
      · rename_i hs
        have hs0:S.st=[]:=List.isEmpty_iff.1 hs
        have:S.gs=T.gs:=by
          apply List.ext_getElem?
          intro i
          by_cases hi:i < S.gs.length
          · obtain ⟨a1,a2,a3,a4⟩:=h3 i _ _ (List.getElem?_eq_getElem hi) (List.getElem?_eq_getElem (by omega))
            rw [List.getElem?_eq_getElem hi,List.getElem?_eq_getElem (by omega)]
            have a5:=a4.resolve_right (by rintro ⟨p,hp,-⟩;rw [hs0] at hp;simp at hp)
            cases hg:S.gs[i];cases hg':T.gs[i]
            rw [hg,hg'] at a1 a2 a3 a5
            dsimp only at a1 a2 a3 a5
            rw [a1,a2,a3,a5]
          · rw [List.getElem?_eq_none (by omega),List.getElem?_eq_none (by omega)]
        rw [this]
      · have:firstLine S=firstLine T:=by
          unfold firstLine
          rw [← h1]
          rcases S.st with _ | ⟨⟨n,b,e⟩,r⟩
          · rfl
          · dsimp only
            by_cases hi:n < S.gs.length
            · obtain ⟨a1,-⟩:=h3 n _ _ (List.getElem?_eq_getElem hi) (List.getElem?_eq_getElem (by omega))
              rw [List.getElem?_eq_getElem hi,List.getElem?_eq_getElem (by omega)]
              dsimp only
              rw [a1]
            · rw [List.getElem?_eq_none (by omega),List.getElem?_eq_none (by omega)]
        rw [this]
end Lx
namespace Lx
def opener:List G → Int → Nat → Option Nat
  | [],_,_=>none
  | g :: r,i,n=>match opener r i (n + 1) with
    | some m=>some m
    | none=>if g.lines.headD 0=i then some n else none
def isEnd (gs:List G) (i:Int):Bool:=gs.any fun g=>g.lines.getLastD 0 == i
def isOther (gs:List G) (i:Int):Bool:=gs.any fun g=>(g.lines.drop 1).contains i
theorem opener_snoc (g:G) (i:Int):∀ (gs:List G) (n:Nat),opener (gs ++ [g]) i n=if g.lines.headD 0=i then some (n + gs.length) else opener gs i n
  | [],n=>by simp [opener]
  | x :: r,n=>by
    simp only [List.cons_append,opener,opener_snoc g i r (n + 1),List.length_cons]
    by_cases h:g.lines.headD 0=i
    · rw [if_pos h,if_pos h];simp;omega
    · rw [if_neg h,if_neg h]
theorem isEnd_snoc (gs:List G) (g:G) (i:Int):isEnd (gs ++ [g]) i=(isEnd gs i || g.lines.getLastD 0 == i):=by unfold isEnd;simp
theorem isOther_snoc (gs:List G) (g:G) (i:Int):isOther (gs ++ [g]) i=(isOther gs i || (g.lines.drop 1).contains i):=by unfold isOther;simp
def plStep (gs:List G) (now:List (Int × Int)) (i:Int):Option (List (Int × Int) × List (Int × Int)) :=
  match opener gs i 0 with
  | some g=>some (now ++ [((g:Int),0)],now)
  | none =>
    if isEnd gs i=true then (if now.isEmpty=true then none else some (now.dropLast,now.dropLast))
    else if isOther gs i=true then
      (match now.getLast? with | none=>none | some p=>some (now.dropLast ++ [(p.1,p.2 + 1)],now.dropLast))
    else some (now,now)
def plRun (gs:List G):List (Int × Int) → Nat → Nat → Option (List (List (Int × Int)))
  | _,_,0=>some []
  | now,i,n + 1=>match plStep gs now (i:Int) with
    | none=>none
    | some (now',o)=>(plRun gs now' (i + 1) n).map fun r=>o :: r
def places (gs:List G) (n:Nat):Option (List (List (Int × Int))):=plRun gs [] 0 n
end Lx
end Go.Proofs.YtjnafjgonoficaaGreatDoor
