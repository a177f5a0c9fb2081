/-
  What the program's numbers come to. Conditions: the text is ASCII and short; the library's tables are as their text lays them.
  Tokens of a text's tail: what stands behind a word, read alone, gives the same tokens, further back. No program in sight. Conditions: none.
  The evaluator looks at the kinds and texts of words alone; its value without a bound on steps. No program in sight. Conditions: none.
  What cond.First comes to where the groups are as said. Conditions: the tokens lie in memory; they are short; the library's variables are as their text lays them.
-/
import Derived.Test.YtjnafjgonoficaaGreatDoorF16
import Derived.Test.YtjnafjgonoficaaGreatDoorF09
set_option linter.unusedVariables false
set_option linter.unusedSimpArgs false
namespace Go.Proofs.YtjnafjgonoficaaGreatDoor
open Go.RowKit Go.Proofs.YtjnafjgonoficaaGreatDoorW.PrintWords
namespace Lx
structure Dig (ds:ByteArray) (b:Nat):Prop where
  size:ds.size=b
  lo:8 ≤ b
  hi:b ≤ 16
  val:∀ k,k < b → B ds k=if k < 10 then (48:Int) + k else 87 + k
  asc:Asc ds
def ds10:ByteArray:=⟨#[48,49,50,51,52,53,54,55,56,57]⟩
def ds16:ByteArray:=⟨#[48,49,50,51,52,53,54,55,56,57,97,98,99,100,101,102]⟩
def ds8:ByteArray:=⟨#[48,49,50,51,52,53,54,55]⟩
theorem dig10:Dig ds10 10:=⟨by decide,by decide,by decide,by decide +kernel,by unfold Asc;decide +kernel⟩
theorem dig16:Dig ds16 16:=⟨by decide,by decide,by decide,by decide +kernel,by unfold Asc;decide +kernel⟩
theorem dig8:Dig ds8 8:=⟨by decide,by decide,by decide,by decide +kernel,by unfold Asc;decide +kernel⟩
theorem low_nat (c:UInt8):(Lib.lowerB c).toNat=if 65 ≤ c.toNat∧c.toNat ≤ 90 then c.toNat + 32 else c.toNat:=by
  unfold Lib.lowerB Lib.isUpperB
  simp only [Bool.and_eq_true,decide_eq_true_eq,UInt8.le_iff_toNat_le]
  show (if 65 ≤ c.toNat∧c.toNat ≤ 90 then c + 32 else c).toNat=_
  split
  · rw [UInt8.toNat_add]
    show (c.toNat + 32) % 256=_
    omega
  · rfl
theorem low_dg (c:UInt8):dg (Lib.lowerB c)=dg c:=by
  unfold dg
  rw [low_nat]
  by_cases h:65 ≤ c.toNat∧c.toNat ≤ 90
  · rw [if_pos h]
    repeat' split
    all_goals omega
  · rw [if_neg h]
theorem low_no (c:UInt8):¬ (65 ≤ (Lib.lowerB c).toNat∧(Lib.lowerB c).toNat ≤ 90):=by
  rw [low_nat];split <;> omega
theorem dig_hit {ds:ByteArray} {b:Nat} (h:Dig ds b) {x:UInt8} {k:Nat} (hk:k < ds.size) (e:B ds k=(x.toNat:Int)):dg x=k∧k < b:=by
  have h1:=h.size
  have h2:=h.hi
  rw [h.val k (by omega)] at e
  unfold dg
  split at e <;> (repeat' split) <;> omega
theorem dig_miss {ds:ByteArray} {b:Nat} (h:Dig ds b) {x:UInt8} (hl:¬ (65 ≤ x.toNat∧x.toNat ≤ 90)) (e:∀ k,k < ds.size → B ds k ≠ (x.toNat:Int)):b ≤ dg x:=by
  have h1:=h.size
  have h2:=h.hi
  apply Classical.byContradiction
  intro hn
  have h4:dg x < 16:=by omega
  have key:∃ k,k=dg x∧(if k < 10 then (48:Int) + k else 87 + k)=x.toNat:=by
    unfold dg at h4 ⊢
    by_cases c1:48 ≤ x.toNat∧x.toNat ≤ 57
    · rw [if_pos c1];refine ⟨_,rfl,?_⟩;rw [if_pos (by omega)];omega
    · rw [if_neg c1] at h4 ⊢
      by_cases c2:97 ≤ x.toNat∧x.toNat ≤ 102
      · rw [if_pos c2];refine ⟨_,rfl,?_⟩;rw [if_neg (by omega)];omega
      · rw [if_neg c2] at h4
        by_cases c3:65 ≤ x.toNat∧x.toNat ≤ 70
        · omega
        · rw [if_neg c3] at h4;omega
  obtain ⟨k,hk,e2⟩:=key
  rw [← hk] at hn
  have h3:=e k (by omega)
  rw [h.val k (by omega)] at h3
  exact h3 e2
theorem low_text (t:ByteArray) (ha:Asc t):∃ U:ByteArray,(⟨(Lib.toLowerD t.data.toList).toArray⟩:ByteArray)=U∧U.size=t.size∧∀ i (h:i < U.size),∃ x:UInt8,t.data.toList[i]? = some x∧(U[i]'h)=Lib.lowerB x∧(Lib.lowerB x).toNat < 128:=by
  refine ⟨_,rfl,?_,?_⟩
  · rw [Lib.toLowerD_ascii _ ha]
    show (Lib.toLowerA t.data.toList).toArray.size=_
    rw [List.size_toArray]
    unfold Lib.toLowerA
    rw [List.length_map,list_size]
  · intro i h
    have hl:(⟨(Lib.toLowerD t.data.toList).toArray⟩:ByteArray).data.toList=t.data.toList.map Lib.lowerB:=by
      rw [Lib.toLowerD_ascii _ ha];simp [Lib.toLowerA]
    have hi:i < (t.data.toList.map Lib.lowerB).length:=by rw [← hl,list_size];exact h
    have hi2:i < t.data.toList.length:=by rw [List.length_map] at hi;exact hi
    refine ⟨t.data.toList[i],List.getElem?_eq_getElem hi2,?_,?_⟩
    · have:(⟨(Lib.toLowerD t.data.toList).toArray⟩:ByteArray)[i]'h=(⟨(Lib.toLowerD t.data.toList).toArray⟩:ByteArray).data.toList[i]'(by rw [list_size];exact h):=rfl
      rw [this,List.getElem_of_eq hl]
      simp
    · have:=ha t.data.toList[i] (List.getElem_mem hi2)
      rw [low_nat]
      split <;> omega
def accU (b:Nat) (l:List UInt8) (i:Nat):Int:=((foldD b 0 (l.take i):Nat):Int) % 18446744073709551616
theorem accU_zero (b:Nat) (l:List UInt8):accU b l 0=0:=rfl
theorem accU_range (b:Nat) (l:List UInt8) (i:Nat):0 ≤ accU b l i∧accU b l i ≤ 18446744073709551615:=by unfold accU;omega
theorem accU_succ (b:Nat) (l:List UInt8) (i:Nat) (x:UInt8) (h:l[i]? = some x):accU b l (i + 1)=(accU b l i * b + dg x) % 18446744073709551616:=by
  unfold accU
  obtain ⟨hi,rfl⟩:=List.getElem?_eq_some_iff.1 h
  rw [List.take_succ_eq_append_getElem hi]
  unfold foldD
  rw [List.foldl_append]
  simp [Int.add_emod,Int.mul_emod]
end Lx
theorem rune_dig {ds:ByteArray} {b:Nat} (h:Lx.Dig ds b) (x:UInt8) (w:World) (hd:Lx.dg x < b):Calls Tryz.prog 168 #[.string ds,.int .i32 ((Lib.lowerB x).toNat:Int)] w fun e w'=>e=.returned (.int .i64 (Lx.dg x:Nat))∧Below w.heap.size w w':=by
  refine (rune_calls ds _ w h.asc (by have:=h.size;have:=h.hi;omega)).mono ?_
  rintro e w' ⟨v,rfl,h1,h2⟩
  rcases h1 with ⟨k,hk,e1,rfl⟩ | ⟨h1,rfl⟩
  · have h3:=(Lx.dig_hit h hk e1).1
    rw [Lx.low_dg] at h3
    rw [h3]
    exact ⟨rfl,h2⟩
  · have h3:=Lx.dig_miss h (Lx.low_no x) h1
    rw [Lx.low_dg] at h3
    omega
theorem rune_none {ds:ByteArray} {b:Nat} (h:Lx.Dig ds b) (x:UInt8) (w:World) (hd:¬ Lx.dg x < b):Calls Tryz.prog 168 #[.string ds,.int .i32 ((Lib.lowerB x).toNat:Int)] w fun e w'=>e=.returned (.int .i64 (-1))∧Below w.heap.size w w':=by
  refine (rune_calls ds _ w h.asc (by have:=h.size;have:=h.hi;omega)).mono ?_
  rintro e w' ⟨v,rfl,h1,h2⟩
  rcases h1 with ⟨k,hk,e1,rfl⟩ | ⟨h1,rfl⟩
  · have h3:=Lx.dig_hit h hk e1
    rw [Lx.low_dg] at h3
    omega
  · exact ⟨rfl,h2⟩
namespace Lx
theorem prog_bad (b:Nat) (l:List UInt8) (i:Nat) (x:UInt8) (h:l[i]? = some x) (hd:¬ dg x < b):progRest b l=(0,false):=by
  unfold progRest
  rw [if_neg]
  intro e
  have:=List.all_eq_true.1 e x (List.mem_of_getElem? h)
  exact hd (of_decide_eq_true this)
theorem wrap_acc (b:Nat) (l:List UInt8):wrap64 (accU b l l.length)=wrap64 (foldD b 0 l:Nat):=by
  unfold accU
  rw [List.take_length]
  unfold wrap64
  omega
theorem prog_end (b:Nat) (l:List UInt8) (n:Nat) (hn:l.length=n) (h:∀ k x,k < n → l[k]? = some x → dg x < b):progRest b l=(wrap64 (accU b l n),decide (0 < n)):=by
  unfold progRest
  rw [if_pos]
  · rw [← hn,wrap_acc]
    congr 1
    cases l <;> simp
  · rw [List.all_eq_true]
    intro x hx
    obtain ⟨k,hk⟩:=List.mem_iff_getElem?.1 hx
    exact decide_eq_true (h k x (by have:=(List.getElem?_eq_some_iff.1 hk).1;omega) hk)
end Lx
theorem u64_wrap (a:Int):IntKind.u64.wrap a=a % 18446744073709551616:=by simp [IntKind.wrap,IntKind.bits,IntKind.signed]
theorem u64_acc (x b d:Int):IntKind.u64.wrap (IntKind.u64.wrap (x * b) + d)=(x * b + d) % 18446744073709551616:=by
  rw [u64_wrap,u64_wrap];simp [Int.add_emod]
theorem cut_at (s T:ByteArray) (w:World) (ha:Lx.Asc s) (hs:s.size ≤ 100000) (hT:Lib.Utf8Tabs 6 7 w) (h:T.data.toList=Lx.cutR s.data.toList):Calls Tryz.prog 166 #[.string s,.string ⟨#[117,108,85,76]⟩] w fun e w'=>e=.returned (.string T)∧Below w.heap.size w w':=by
  refine (cut_calls s w ha hs hT).mono ?_
  rintro e w' ⟨t,rfl,⟨h1,-,-⟩,h2⟩
  have:t=T:=by
    apply ByteArray.ext
    apply Array.toList_inj.1
    rw [h1,h]
  rw [this]
  exact ⟨rfl,h2⟩
theorem pre_no (T:ByteArray) (p:ByteArray) (b:Bool) (h:Lib.hasPrefix T.data.toList p.data.toList=b) (w:World):Calls Tryz.prog 40 #[.string T,.string p] w fun e w'=>e=.returned (.bool b)∧w'=w:=by
  rw [← h];exact Tryz.strings_HasPrefix _ _ _
set_option maxRecDepth 100000 in
set_option maxHeartbeats 8000000 in
theorem number_short (s T:ByteArray) (w:World) (hs:T.size ≤ 100000) (hTa:Lx.Asc T) (hT:Lib.Utf8Tabs 6 7 w) (hV:Lib.CaseVar 5 Lib.caseA w) (hcut:Calls Tryz.prog 166 #[.string s,.string ⟨#[117,108,85,76]⟩] w fun e w'=>e=.returned (.string T)∧Below w.heap.size w w')
    (hp1:∀ w,Calls Tryz.prog 40 #[.string T,.string ⟨#[48,120]⟩] w fun e w'=>e=.returned (.bool false)∧w'=w) (hp2:∀ w,Calls Tryz.prog 40 #[.string T,.string ⟨#[48,88]⟩] w fun e w'=>e=.returned (.bool false)∧w'=w) (h1:T.size ≤ 1) :
    Calls Tryz.prog 138 #[.string s] w fun e w'=>e=.returned (.tuple #[.int .i64 (Lx.progRest 10 T.data.toList).1,.bool (Lx.progRest 10 T.data.toList).2])∧Below w.heap.size w w':=by
  have hge:=emptyB T
  obtain ⟨eb,heb⟩:∃ eb,decide (T.size=0)=eb:=⟨_,rfl⟩
  rw [heb] at hge
  have HEB:=mkA heb
  clear heb
  have h1i:decide ((1:Int) < (T.size:Int))=false:=decide_eq_false (by omega)
  have HTS:=mkA (show T.size < 35184372088832 by omega)
  obtain ⟨U,hU,hUs,hUx⟩:=Lx.low_text T hTa
  obtain ⟨LL,hLL⟩:∃ LL,T.data.toList=LL:=⟨_,rfl⟩
  have hul:LL.length=U.size:=by rw [← hLL,Lx.list_size,hUs]
  rw [hLL] at hU hUx
  have HU:=mkA (show (⟨(Lib.toLowerD T.data.toList).toArray⟩:ByteArray)=U by rw [hLL];exact hU)
  have HUX:=mkA hUx
  have HUL:=mkA hul
  have HUS:=mkA hUs
  obtain ⟨RR,hRR⟩:∃ RR,Lx.progRest 10 LL=RR:=⟨_,rfl⟩
  have HRR:=mkA hRR
  have HV:=mkA hV
  have HT:=mkA hT
  have HCUT:=mkA hcut
  have HP1:=mkA hp1
  have HP2:=mkA hp2
  rw [hLL,hRR]
  clear hcut hp1 hp2 hT hV hTa hU hUx hul hRR hLL hUs
  go_enter Tryz.func138,Tryz.ntmps138
  go_wp2_with (first | (go_at_call 166;(refine (HCUT.out).mono ?_);rintro e w1 ⟨rfl,hb⟩;have HB:=mkA hb;clear hb) | (go_at_call 40;(with_reducible refine (HP1.out _).mono ?_);rintro e w' ⟨rfl,rfl⟩) | (go_at_call 40;(with_reducible refine (HP2.out _).mono ?_);rintro e w' ⟨rfl,rfl⟩) | (go_at_call 167;(refine (Tryz.strings_ToLower_any T _ HTS.out (Lib.CaseVar_below HV.out HB.out) (Utf8Tabs_below HT.out HB.out)).mono ?_);rintro e w3 ⟨rfl,hb⟩;rw [HU.out];have HB3:=mkA (HB.out.trans (hb.mono HB.out.size));clear hb))
  go_loopg [6] U.size (fun kq v6 W => ∃ i:Nat,v6=.int .u64 (Lx.accU 10 LL i)∧Aside0 (i ≤ U.size∧kq=U.size - i∧∀ k x,k < i → LL[k]? = some x → Lx.dg x < 10)∧Aside0 (W.heap[w3.heap.size]? = some (.stringIter U i)∧Below w.heap.size w W))
  case atStart=>exact ⟨0,by rw [Lx.accU_zero],⟨Nat.zero_le _,rfl,fun k x h=>absurd h (Nat.not_lt_zero k)⟩,⟨World.iter_heap w3 U 0,show Below w.heap.size w (w3.alloc _) from HB3.out.alloc HB3.out.size _⟩⟩
  case round =>
    obtain ⟨i,rfl,HI,HW⟩:=hrel
    have hi:=HI.out.1
    have hacr:=Lx.accU_range 10 LL i
    have hac0:=hacr.1
    have hac1:=hacr.2
    by_cases hlt:i < U.size
    · obtain ⟨x,hx,hux,hx128⟩:=HUX.out i hlt
      have n0:=fun (ty:TypeId) => @Lib.run_next_ascii_at Tryz.prog wr w3.heap.size U i ty HW.out.1 hlt (by rw [hux];exact hx128)
      rw [hux] at n0
      obtain ⟨y,hy⟩:∃ y:Int,((Lib.lowerB x).toNat:Int)=y:=⟨_,rfl⟩
      rw [hy] at n0
      have hit:=Lib.iterAt_heap wr w3.heap.size U i (i + 1) HW.out.1
      have hbw:=Lib.below_iterAt HW.out.2 HB3.out.size U (i + 1)
      have HIT:=mkA hit
      have HBW:=mkA hbw
      have hasz:=Lib.iterAt_size wr w3.heap.size U (i + 1)
      have HASZ:=mkA hasz
      by_cases hd:Lx.dg x < 10
      · have HRC:=mkA (rune_dig Lx.dig10 x (wr.iterAt w3.heap.size U (i + 1)) hd)
        rw [hy] at HRC
        have hsx:=Lx.accU_succ 10 LL i x hx
        obtain ⟨dn,hdn⟩:∃ dn,Lx.dg x=dn:=⟨_,rfl⟩
        rw [hdn] at HRC hsx hd
        have hdn0:(0:Int) ≤ (dn:Int):=Int.natCast_nonneg _
        have hdnb:dn < 16:=by omega
        have HD:=mkA hdn
        have HSX:=mkA hsx
        have HX:=mkA hx
        have HDB:=mkA hd
        clear hx hux hx128 hy hit hbw hdn hsx hacr hasz hd
        go_wp2_with (first | (go_at_call 168;(refine HRC.out.mono ?_);rintro e w5 ⟨rfl,hb⟩;have HB5:=mkA hb;clear hb))
        go_roundg (U.size - (i + 1))
        case measure=>have:=HI.out;omega
        case rel =>
          refine ⟨i + 1,?_,⟨by omega,rfl,?_⟩,⟨?_,?_⟩⟩
          · rw [HSX.out];first | rfl | (rw [← u64_acc];rfl) | (rw [← u64_wrap];rfl)
          · intro k z hk hz
            by_cases hki:k < i
            · exact HI.out.2.2 k z hki hz
            · obtain rfl:k=i:=by omega
              have h9:=HX.out
              rw [hz] at h9
              rw [Option.some.inj h9,HD.out];exact HDB.out
          · have hlk:=(Array.getElem?_eq_some_iff.1 HIT.out).1
            exact (HB5.out.block _ hlk).trans HIT.out
          · exact HBW.out.trans (HB5.out.mono HBW.out.size)
      · have HRC:=mkA (rune_none Lx.dig10 x (wr.iterAt w3.heap.size U (i + 1)) hd)
        rw [hy] at HRC
        have HEND:=mkA (Lx.prog_bad 10 LL i x hx hd)
        clear hx hux hx128 hy hit hbw hacr hasz hd
        go_wp2_with (first | (go_at_call 168;(refine HRC.out.mono ?_);rintro e w5 ⟨rfl,hb⟩;have HB5:=mkA hb;clear hb))
        go_ret2
        rw [← HRR.out,HEND.out]
        exact ⟨rfl,HBW.out.trans (HB5.out.mono HBW.out.size)⟩
    · obtain rfl:i=U.size:=by omega
      have n1:=fun (ty:TypeId) => @Lib.run_next_end_at Tryz.prog wr w3.heap.size U U.size ty HW.out.1 hlt
      have HEND:=mkA (Lx.prog_end 10 LL U.size HUL.out HI.out.2.2)
      clear hacr
      go_wp2_with fail
      go_ret2
      rw [← HRR.out,HEND.out]
      rw [show decide (0 < U.size) = !eb from by rw [← HEB.out,HUS.out];by_cases h:T.size=0 <;> simp [h];omega]
      exact ⟨rfl,HW.out.2⟩
set_option maxRecDepth 100000 in
set_option maxHeartbeats 8000000 in
theorem number_dec (s T:ByteArray) (w:World) (hs:T.size ≤ 100000) (hTa:Lx.Asc T) (hT:Lib.Utf8Tabs 6 7 w) (hV:Lib.CaseVar 5 Lib.caseA w) (hcut:Calls Tryz.prog 166 #[.string s,.string ⟨#[117,108,85,76]⟩] w fun e w'=>e=.returned (.string T)∧Below w.heap.size w w')
    (hp1:∀ w,Calls Tryz.prog 40 #[.string T,.string ⟨#[48,120]⟩] w fun e w'=>e=.returned (.bool false)∧w'=w) (hp2:∀ w,Calls Tryz.prog 40 #[.string T,.string ⟨#[48,88]⟩] w fun e w'=>e=.returned (.bool false)∧w'=w) (h1:1 < T.size) (h48:Lx.B T 0 ≠ 48) :
    Calls Tryz.prog 138 #[.string s] w fun e w'=>e=.returned (.tuple #[.int .i64 (Lx.progRest 10 T.data.toList).1,.bool (Lx.progRest 10 T.data.toList).2])∧Below w.heap.size w w':=by
  have hge:=emptyB T
  obtain ⟨eb,heb⟩:∃ eb,decide (T.size=0)=eb:=⟨_,rfl⟩
  rw [heb] at hge
  have HEB:=mkA heb
  clear heb
  have hg0:=B_get T 0 (by omega)
  have h48:(Lx.B T 0 == 48)=false:=beq_eq_false_iff_ne.mpr h48
  have h1i:decide ((1:Int) < (T.size:Int))=true:=decide_eq_true (by omega)
  have h0i:(0:Int) < (T.size:Int):=by omega
  have HTS:=mkA (show T.size < 35184372088832 by omega)
  obtain ⟨U,hU,hUs,hUx⟩:=Lx.low_text T hTa
  obtain ⟨LL,hLL⟩:∃ LL,T.data.toList=LL:=⟨_,rfl⟩
  have hul:LL.length=U.size:=by rw [← hLL,Lx.list_size,hUs]
  rw [hLL] at hU hUx
  have HU:=mkA (show (⟨(Lib.toLowerD T.data.toList).toArray⟩:ByteArray)=U by rw [hLL];exact hU)
  have HUX:=mkA hUx
  have HUL:=mkA hul
  have HUS:=mkA hUs
  obtain ⟨RR,hRR⟩:∃ RR,Lx.progRest 10 LL=RR:=⟨_,rfl⟩
  have HRR:=mkA hRR
  have HV:=mkA hV
  have HT:=mkA hT
  have HCUT:=mkA hcut
  have HP1:=mkA hp1
  have HP2:=mkA hp2
  rw [hLL,hRR]
  clear hcut hp1 hp2 hT hV hTa hU hUx hul hRR hLL hUs
  go_enter Tryz.func138,Tryz.ntmps138
  go_wp2_with (first | (go_at_call 166;(refine (HCUT.out).mono ?_);rintro e w1 ⟨rfl,hb⟩;have HB:=mkA hb;clear hb) | (go_at_call 40;(with_reducible refine (HP1.out _).mono ?_);rintro e w' ⟨rfl,rfl⟩) | (go_at_call 40;(with_reducible refine (HP2.out _).mono ?_);rintro e w' ⟨rfl,rfl⟩) | (go_at_call 167;(refine (Tryz.strings_ToLower_any T _ HTS.out (Lib.CaseVar_below HV.out HB.out) (Utf8Tabs_below HT.out HB.out)).mono ?_);rintro e w3 ⟨rfl,hb⟩;rw [HU.out];have HB3:=mkA (HB.out.trans (hb.mono HB.out.size));clear hb))
  go_loopg [6] U.size (fun kq v6 W => ∃ i:Nat,v6=.int .u64 (Lx.accU 10 LL i)∧Aside0 (i ≤ U.size∧kq=U.size - i∧∀ k x,k < i → LL[k]? = some x → Lx.dg x < 10)∧Aside0 (W.heap[w3.heap.size]? = some (.stringIter U i)∧Below w.heap.size w W))
  case atStart=>exact ⟨0,by rw [Lx.accU_zero],⟨Nat.zero_le _,rfl,fun k x h=>absurd h (Nat.not_lt_zero k)⟩,⟨World.iter_heap w3 U 0,show Below w.heap.size w (w3.alloc _) from HB3.out.alloc HB3.out.size _⟩⟩
  case round =>
    obtain ⟨i,rfl,HI,HW⟩:=hrel
    have hi:=HI.out.1
    have hacr:=Lx.accU_range 10 LL i
    have hac0:=hacr.1
    have hac1:=hacr.2
    by_cases hlt:i < U.size
    · obtain ⟨x,hx,hux,hx128⟩:=HUX.out i hlt
      have n0:=fun (ty:TypeId) => @Lib.run_next_ascii_at Tryz.prog wr w3.heap.size U i ty HW.out.1 hlt (by rw [hux];exact hx128)
      rw [hux] at n0
      obtain ⟨y,hy⟩:∃ y:Int,((Lib.lowerB x).toNat:Int)=y:=⟨_,rfl⟩
      rw [hy] at n0
      have hit:=Lib.iterAt_heap wr w3.heap.size U i (i + 1) HW.out.1
      have hbw:=Lib.below_iterAt HW.out.2 HB3.out.size U (i + 1)
      have HIT:=mkA hit
      have HBW:=mkA hbw
      have hasz:=Lib.iterAt_size wr w3.heap.size U (i + 1)
      have HASZ:=mkA hasz
      by_cases hd:Lx.dg x < 10
      · have HRC:=mkA (rune_dig Lx.dig10 x (wr.iterAt w3.heap.size U (i + 1)) hd)
        rw [hy] at HRC
        have hsx:=Lx.accU_succ 10 LL i x hx
        obtain ⟨dn,hdn⟩:∃ dn,Lx.dg x=dn:=⟨_,rfl⟩
        rw [hdn] at HRC hsx hd
        have hdn0:(0:Int) ≤ (dn:Int):=Int.natCast_nonneg _
        have hdnb:dn < 16:=by omega
        have HD:=mkA hdn
        have HSX:=mkA hsx
        have HX:=mkA hx
        have HDB:=mkA hd
        clear hx hux hx128 hy hit hbw hdn hsx hacr hasz hd
        go_wp2_with (first | (go_at_call 168;(refine HRC.out.mono ?_);rintro e w5 ⟨rfl,hb⟩;have HB5:=mkA hb;clear hb))
        go_roundg (U.size - (i + 1))
        case measure=>have:=HI.out;omega
        case rel =>
          refine ⟨i + 1,?_,⟨by omega,rfl,?_⟩,⟨?_,?_⟩⟩
          · rw [HSX.out];first | rfl | (rw [← u64_acc];rfl) | (rw [← u64_wrap];rfl)
          · intro k z hk hz
            by_cases hki:k < i
            · exact HI.out.2.2 k z hki hz
            · obtain rfl:k=i:=by omega
              have h9:=HX.out
              rw [hz] at h9
              rw [Option.some.inj h9,HD.out];exact HDB.out
          · have hlk:=(Array.getElem?_eq_some_iff.1 HIT.out).1
            exact (HB5.out.block _ hlk).trans HIT.out
          · exact HBW.out.trans (HB5.out.mono HBW.out.size)
      · have HRC:=mkA (rune_none Lx.dig10 x (wr.iterAt w3.heap.size U (i + 1)) hd)
        rw [hy] at HRC
        have HEND:=mkA (Lx.prog_bad 10 LL i x hx hd)
        clear hx hux hx128 hy hit hbw hacr hasz hd
        go_wp2_with (first | (go_at_call 168;(refine HRC.out.mono ?_);rintro e w5 ⟨rfl,hb⟩;have HB5:=mkA hb;clear hb))
        go_ret2
        rw [← HRR.out,HEND.out]
        exact ⟨rfl,HBW.out.trans (HB5.out.mono HBW.out.size)⟩
    · obtain rfl:i=U.size:=by omega
      have n1:=fun (ty:TypeId) => @Lib.run_next_end_at Tryz.prog wr w3.heap.size U U.size ty HW.out.1 hlt
      have HEND:=mkA (Lx.prog_end 10 LL U.size HUL.out HI.out.2.2)
      clear hacr
      go_wp2_with fail
      go_ret2
      rw [← HRR.out,HEND.out]
      rw [show decide (0 < U.size) = !eb from by rw [← HEB.out,HUS.out];by_cases h:T.size=0 <;> simp [h];omega]
      exact ⟨rfl,HW.out.2⟩
set_option maxRecDepth 100000 in
set_option maxHeartbeats 8000000 in
theorem number_oct (s T:ByteArray) (w:World) (hs:T.size ≤ 100000) (hTa:Lx.Asc T) (hT:Lib.Utf8Tabs 6 7 w) (hV:Lib.CaseVar 5 Lib.caseA w) (hcut:Calls Tryz.prog 166 #[.string s,.string ⟨#[117,108,85,76]⟩] w fun e w'=>e=.returned (.string T)∧Below w.heap.size w w')
    (hp1:∀ w,Calls Tryz.prog 40 #[.string T,.string ⟨#[48,120]⟩] w fun e w'=>e=.returned (.bool false)∧w'=w) (hp2:∀ w,Calls Tryz.prog 40 #[.string T,.string ⟨#[48,88]⟩] w fun e w'=>e=.returned (.bool false)∧w'=w) (h1:1 < T.size) (h48:Lx.B T 0=48) :
    Calls Tryz.prog 138 #[.string s] w fun e w'=>e=.returned (.tuple #[.int .i64 (Lx.progRest 8 T.data.toList).1,.bool (Lx.progRest 8 T.data.toList).2])∧Below w.heap.size w w':=by
  have hge:=emptyB T
  obtain ⟨eb,heb⟩:∃ eb,decide (T.size=0)=eb:=⟨_,rfl⟩
  rw [heb] at hge
  have HEB:=mkA heb
  clear heb
  have hg0:=B_get T 0 (by omega)
  have h48:(Lx.B T 0 == 48)=true:=beq_iff_eq.mpr h48
  have h1i:decide ((1:Int) < (T.size:Int))=true:=decide_eq_true (by omega)
  have h0i:(0:Int) < (T.size:Int):=by omega
  have HTS:=mkA (show T.size < 35184372088832 by omega)
  obtain ⟨U,hU,hUs,hUx⟩:=Lx.low_text T hTa
  obtain ⟨LL,hLL⟩:∃ LL,T.data.toList=LL:=⟨_,rfl⟩
  have hul:LL.length=U.size:=by rw [← hLL,Lx.list_size,hUs]
  rw [hLL] at hU hUx
  have HU:=mkA (show (⟨(Lib.toLowerD T.data.toList).toArray⟩:ByteArray)=U by rw [hLL];exact hU)
  have HUX:=mkA hUx
  have HUL:=mkA hul
  have HUS:=mkA hUs
  obtain ⟨RR,hRR⟩:∃ RR,Lx.progRest 8 LL=RR:=⟨_,rfl⟩
  have HRR:=mkA hRR
  have HV:=mkA hV
  have HT:=mkA hT
  have HCUT:=mkA hcut
  have HP1:=mkA hp1
  have HP2:=mkA hp2
  rw [hLL,hRR]
  clear hcut hp1 hp2 hT hV hTa hU hUx hul hRR hLL hUs
  go_enter Tryz.func138,Tryz.ntmps138
  go_wp2_with (first | (go_at_call 166;(refine (HCUT.out).mono ?_);rintro e w1 ⟨rfl,hb⟩;have HB:=mkA hb;clear hb) | (go_at_call 40;(with_reducible refine (HP1.out _).mono ?_);rintro e w' ⟨rfl,rfl⟩) | (go_at_call 40;(with_reducible refine (HP2.out _).mono ?_);rintro e w' ⟨rfl,rfl⟩) | (go_at_call 167;(refine (Tryz.strings_ToLower_any T _ HTS.out (Lib.CaseVar_below HV.out HB.out) (Utf8Tabs_below HT.out HB.out)).mono ?_);rintro e w3 ⟨rfl,hb⟩;rw [HU.out];have HB3:=mkA (HB.out.trans (hb.mono HB.out.size));clear hb))
  go_loopg [6] U.size (fun kq v6 W => ∃ i:Nat,v6=.int .u64 (Lx.accU 8 LL i)∧Aside0 (i ≤ U.size∧kq=U.size - i∧∀ k x,k < i → LL[k]? = some x → Lx.dg x < 8)∧Aside0 (W.heap[w3.heap.size]? = some (.stringIter U i)∧Below w.heap.size w W))
  case atStart=>exact ⟨0,by rw [Lx.accU_zero],⟨Nat.zero_le _,rfl,fun k x h=>absurd h (Nat.not_lt_zero k)⟩,⟨World.iter_heap w3 U 0,show Below w.heap.size w (w3.alloc _) from HB3.out.alloc HB3.out.size _⟩⟩
  case round =>
    obtain ⟨i,rfl,HI,HW⟩:=hrel
    have hi:=HI.out.1
    have hacr:=Lx.accU_range 8 LL i
    have hac0:=hacr.1
    have hac1:=hacr.2
    by_cases hlt:i < U.size
    · obtain ⟨x,hx,hux,hx128⟩:=HUX.out i hlt
      have n0:=fun (ty:TypeId) => @Lib.run_next_ascii_at Tryz.prog wr w3.heap.size U i ty HW.out.1 hlt (by rw [hux];exact hx128)
      rw [hux] at n0
      obtain ⟨y,hy⟩:∃ y:Int,((Lib.lowerB x).toNat:Int)=y:=⟨_,rfl⟩
      rw [hy] at n0
      have hit:=Lib.iterAt_heap wr w3.heap.size U i (i + 1) HW.out.1
      have hbw:=Lib.below_iterAt HW.out.2 HB3.out.size U (i + 1)
      have HIT:=mkA hit
      have HBW:=mkA hbw
      have hasz:=Lib.iterAt_size wr w3.heap.size U (i + 1)
      have HASZ:=mkA hasz
      by_cases hd:Lx.dg x < 8
      · have HRC:=mkA (rune_dig Lx.dig8 x (wr.iterAt w3.heap.size U (i + 1)) hd)
        rw [hy] at HRC
        have hsx:=Lx.accU_succ 8 LL i x hx
        obtain ⟨dn,hdn⟩:∃ dn,Lx.dg x=dn:=⟨_,rfl⟩
        rw [hdn] at HRC hsx hd
        have hdn0:(0:Int) ≤ (dn:Int):=Int.natCast_nonneg _
        have hdnb:dn < 16:=by omega
        have HD:=mkA hdn
        have HSX:=mkA hsx
        have HX:=mkA hx
        have HDB:=mkA hd
        clear hx hux hx128 hy hit hbw hdn hsx hacr hasz hd
        go_wp2_with (first | (go_at_call 168;(refine HRC.out.mono ?_);rintro e w5 ⟨rfl,hb⟩;have HB5:=mkA hb;clear hb))
        go_roundg (U.size - (i + 1))
        case measure=>have:=HI.out;omega
        case rel =>
          refine ⟨i + 1,?_,⟨by omega,rfl,?_⟩,⟨?_,?_⟩⟩
          · rw [HSX.out];first | rfl | (rw [← u64_acc];rfl) | (rw [← u64_wrap];rfl)
          · intro k z hk hz
            by_cases hki:k < i
            · exact HI.out.2.2 k z hki hz
            · obtain rfl:k=i:=by omega
              have h9:=HX.out
              rw [hz] at h9
              rw [Option.some.inj h9,HD.out];exact HDB.out
          · have hlk:=(Array.getElem?_eq_some_iff.1 HIT.out).1
            exact (HB5.out.block _ hlk).trans HIT.out
          · exact HBW.out.trans (HB5.out.mono HBW.out.size)
      · have HRC:=mkA (rune_none Lx.dig8 x (wr.iterAt w3.heap.size U (i + 1)) hd)
        rw [hy] at HRC
        have HEND:=mkA (Lx.prog_bad 8 LL i x hx hd)
        clear hx hux hx128 hy hit hbw hacr hasz hd
        go_wp2_with (first | (go_at_call 168;(refine HRC.out.mono ?_);rintro e w5 ⟨rfl,hb⟩;have HB5:=mkA hb;clear hb))
        go_ret2
        rw [← HRR.out,HEND.out]
        exact ⟨rfl,HBW.out.trans (HB5.out.mono HBW.out.size)⟩
    · obtain rfl:i=U.size:=by omega
      have n1:=fun (ty:TypeId) => @Lib.run_next_end_at Tryz.prog wr w3.heap.size U U.size ty HW.out.1 hlt
      have HEND:=mkA (Lx.prog_end 8 LL U.size HUL.out HI.out.2.2)
      clear hacr
      go_wp2_with fail
      go_ret2
      rw [← HRR.out,HEND.out]
      rw [show decide (0 < U.size) = !eb from by rw [← HEB.out,HUS.out];by_cases h:T.size=0 <;> simp [h];omega]
      exact ⟨rfl,HW.out.2⟩
set_option maxRecDepth 100000 in
set_option maxHeartbeats 8000000 in
theorem number_hex (s T T2:ByteArray) (w:World) (hs:T.size ≤ 100000) (hTa:Lx.Asc T2) (hT:Lib.Utf8Tabs 6 7 w) (hV:Lib.CaseVar 5 Lib.caseA w) (hcut:Calls Tryz.prog 166 #[.string s,.string ⟨#[117,108,85,76]⟩] w fun e w'=>e=.returned (.string T)∧Below w.heap.size w w')
    (hp1:∀ w,Calls Tryz.prog 40 #[.string T,.string ⟨#[48,120]⟩] w fun e w'=>e=.returned (.bool true)∧w'=w) (hp2:∀ w,Calls Tryz.prog 40 #[.string T,.string ⟨#[48,88]⟩] w fun e w'=>e=.returned (.bool false)∧w'=w) (h1:1 < T.size) (hT2:T.extract 2 T.size=T2) (hs2:T2.size ≤ 100000) :
    Calls Tryz.prog 138 #[.string s] w fun e w'=>e=.returned (.tuple #[.int .i64 (Lx.progRest 16 T2.data.toList).1,.bool (Lx.progRest 16 T2.data.toList).2])∧Below w.heap.size w w':=by
  have hge:=emptyB T2
  obtain ⟨eb,heb⟩:∃ eb,decide (T2.size=0)=eb:=⟨_,rfl⟩
  rw [heb] at hge
  have HEB:=mkA heb
  clear heb
  have h2i:(2:Int) ≤ (T.size:Int):=by omega
  have h2n:2 ≤ T.size:=by omega
  have HTS:=mkA (show T2.size < 35184372088832 by omega)
  obtain ⟨U,hU,hUs,hUx⟩:=Lx.low_text T2 hTa
  obtain ⟨LL,hLL⟩:∃ LL,T2.data.toList=LL:=⟨_,rfl⟩
  have hul:LL.length=U.size:=by rw [← hLL,Lx.list_size,hUs]
  rw [hLL] at hU hUx
  have HU:=mkA (show (⟨(Lib.toLowerD T2.data.toList).toArray⟩:ByteArray)=U by rw [hLL];exact hU)
  have HUX:=mkA hUx
  have HUL:=mkA hul
  have HUS:=mkA hUs
  obtain ⟨RR,hRR⟩:∃ RR,Lx.progRest 16 LL=RR:=⟨_,rfl⟩
  have HRR:=mkA hRR
  have HV:=mkA hV
  have HT:=mkA hT
  have HCUT:=mkA hcut
  have HP1:=mkA hp1
  have HP2:=mkA hp2
  rw [hLL,hRR]
  clear hcut hp1 hp2 hT hV hTa hU hUx hul hRR hLL hUs
  go_enter Tryz.func138,Tryz.ntmps138
  go_wp2_with (first | (go_at_call 166;(refine (HCUT.out).mono ?_);rintro e w1 ⟨rfl,hb⟩;have HB:=mkA hb;clear hb) | (go_at_call 40;(with_reducible refine (HP1.out _).mono ?_);rintro e w' ⟨rfl,rfl⟩) | (go_at_call 40;(with_reducible refine (HP2.out _).mono ?_);rintro e w' ⟨rfl,rfl⟩) | (go_at_call 167;(refine (Tryz.strings_ToLower_any T2 _ HTS.out (Lib.CaseVar_below HV.out HB.out) (Utf8Tabs_below HT.out HB.out)).mono ?_);rintro e w3 ⟨rfl,hb⟩;rw [HU.out];have HB3:=mkA (HB.out.trans (hb.mono HB.out.size));clear hb))
  go_loopg [6] U.size (fun kq v6 W => ∃ i:Nat,v6=.int .u64 (Lx.accU 16 LL i)∧Aside0 (i ≤ U.size∧kq=U.size - i∧∀ k x,k < i → LL[k]? = some x → Lx.dg x < 16)∧Aside0 (W.heap[w3.heap.size]? = some (.stringIter U i)∧Below w.heap.size w W))
  case atStart=>exact ⟨0,by rw [Lx.accU_zero],⟨Nat.zero_le _,rfl,fun k x h=>absurd h (Nat.not_lt_zero k)⟩,⟨World.iter_heap w3 U 0,show Below w.heap.size w (w3.alloc _) from HB3.out.alloc HB3.out.size _⟩⟩
  case round =>
    obtain ⟨i,rfl,HI,HW⟩:=hrel
    have hi:=HI.out.1
    have hacr:=Lx.accU_range 16 LL i
    have hac0:=hacr.1
    have hac1:=hacr.2
    by_cases hlt:i < U.size
    · obtain ⟨x,hx,hux,hx128⟩:=HUX.out i hlt
      have n0:=fun (ty:TypeId) => @Lib.run_next_ascii_at Tryz.prog wr w3.heap.size U i ty HW.out.1 hlt (by rw [hux];exact hx128)
      rw [hux] at n0
      obtain ⟨y,hy⟩:∃ y:Int,((Lib.lowerB x).toNat:Int)=y:=⟨_,rfl⟩
      rw [hy] at n0
      have hit:=Lib.iterAt_heap wr w3.heap.size U i (i + 1) HW.out.1
      have hbw:=Lib.below_iterAt HW.out.2 HB3.out.size U (i + 1)
      have HIT:=mkA hit
      have HBW:=mkA hbw
      have hasz:=Lib.iterAt_size wr w3.heap.size U (i + 1)
      have HASZ:=mkA hasz
      by_cases hd:Lx.dg x < 16
      · have HRC:=mkA (rune_dig Lx.dig16 x (wr.iterAt w3.heap.size U (i + 1)) hd)
        rw [hy] at HRC
        have hsx:=Lx.accU_succ 16 LL i x hx
        obtain ⟨dn,hdn⟩:∃ dn,Lx.dg x=dn:=⟨_,rfl⟩
        rw [hdn] at HRC hsx hd
        have hdn0:(0:Int) ≤ (dn:Int):=Int.natCast_nonneg _
        have hdnb:dn < 16:=by omega
        have HD:=mkA hdn
        have HSX:=mkA hsx
        have HX:=mkA hx
        have HDB:=mkA hd
        clear hx hux hx128 hy hit hbw hdn hsx hacr hasz hd
        go_wp2_with (first | (go_at_call 168;(refine HRC.out.mono ?_);rintro e w5 ⟨rfl,hb⟩;have HB5:=mkA hb;clear hb))
        go_roundg (U.size - (i + 1))
        case measure=>have:=HI.out;omega
        case rel =>
          refine ⟨i + 1,?_,⟨by omega,rfl,?_⟩,⟨?_,?_⟩⟩
          · rw [HSX.out];first | rfl | (rw [← u64_acc];rfl) | (rw [← u64_wrap];rfl)
          · intro k z hk hz
            by_cases hki:k < i
            · exact HI.out.2.2 k z hki hz
            · obtain rfl:k=i:=by omega
              have h9:=HX.out
              rw [hz] at h9
              rw [Option.some.inj h9,HD.out];exact HDB.out
          · have hlk:=(Array.getElem?_eq_some_iff.1 HIT.out).1
            exact (HB5.out.block _ hlk).trans HIT.out
          · exact HBW.out.trans (HB5.out.mono HBW.out.size)
      · have HRC:=mkA (rune_none Lx.dig16 x (wr.iterAt w3.heap.size U (i + 1)) hd)
        rw [hy] at HRC
        have HEND:=mkA (Lx.prog_bad 16 LL i x hx hd)
        clear hx hux hx128 hy hit hbw hacr hasz hd
        go_wp2_with (first | (go_at_call 168;(refine HRC.out.mono ?_);rintro e w5 ⟨rfl,hb⟩;have HB5:=mkA hb;clear hb))
        go_ret2
        rw [← HRR.out,HEND.out]
        exact ⟨rfl,HBW.out.trans (HB5.out.mono HBW.out.size)⟩
    · obtain rfl:i=U.size:=by omega
      have n1:=fun (ty:TypeId) => @Lib.run_next_end_at Tryz.prog wr w3.heap.size U U.size ty HW.out.1 hlt
      have HEND:=mkA (Lx.prog_end 16 LL U.size HUL.out HI.out.2.2)
      clear hacr
      go_wp2_with fail
      go_ret2
      rw [← HRR.out,HEND.out]
      rw [show decide (0 < U.size) = !eb from by rw [← HEB.out,HUS.out];by_cases h:T2.size=0 <;> simp [h];omega]
      exact ⟨rfl,HW.out.2⟩
set_option maxRecDepth 100000 in
set_option maxHeartbeats 8000000 in
theorem number_heX (s T T2:ByteArray) (w:World) (hs:T.size ≤ 100000) (hTa:Lx.Asc T2) (hT:Lib.Utf8Tabs 6 7 w) (hV:Lib.CaseVar 5 Lib.caseA w) (hcut:Calls Tryz.prog 166 #[.string s,.string ⟨#[117,108,85,76]⟩] w fun e w'=>e=.returned (.string T)∧Below w.heap.size w w')
    (hp1:∀ w,Calls Tryz.prog 40 #[.string T,.string ⟨#[48,120]⟩] w fun e w'=>e=.returned (.bool false)∧w'=w) (hp2:∀ w,Calls Tryz.prog 40 #[.string T,.string ⟨#[48,88]⟩] w fun e w'=>e=.returned (.bool true)∧w'=w) (h1:1 < T.size) (hT2:T.extract 2 T.size=T2) (hs2:T2.size ≤ 100000) :
    Calls Tryz.prog 138 #[.string s] w fun e w'=>e=.returned (.tuple #[.int .i64 (Lx.progRest 16 T2.data.toList).1,.bool (Lx.progRest 16 T2.data.toList).2])∧Below w.heap.size w w':=by
  have hge:=emptyB T2
  obtain ⟨eb,heb⟩:∃ eb,decide (T2.size=0)=eb:=⟨_,rfl⟩
  rw [heb] at hge
  have HEB:=mkA heb
  clear heb
  have h2i:(2:Int) ≤ (T.size:Int):=by omega
  have h2n:2 ≤ T.size:=by omega
  have HTS:=mkA (show T2.size < 35184372088832 by omega)
  obtain ⟨U,hU,hUs,hUx⟩:=Lx.low_text T2 hTa
  obtain ⟨LL,hLL⟩:∃ LL,T2.data.toList=LL:=⟨_,rfl⟩
  have hul:LL.length=U.size:=by rw [← hLL,Lx.list_size,hUs]
  rw [hLL] at hU hUx
  have HU:=mkA (show (⟨(Lib.toLowerD T2.data.toList).toArray⟩:ByteArray)=U by rw [hLL];exact hU)
  have HUX:=mkA hUx
  have HUL:=mkA hul
  have HUS:=mkA hUs
  obtain ⟨RR,hRR⟩:∃ RR,Lx.progRest 16 LL=RR:=⟨_,rfl⟩
  have HRR:=mkA hRR
  have HV:=mkA hV
  have HT:=mkA hT
  have HCUT:=mkA hcut
  have HP1:=mkA hp1
  have HP2:=mkA hp2
  rw [hLL,hRR]
  clear hcut hp1 hp2 hT hV hTa hU hUx hul hRR hLL hUs
  go_enter Tryz.func138,Tryz.ntmps138
  go_wp2_with (first | (go_at_call 166;(refine (HCUT.out).mono ?_);rintro e w1 ⟨rfl,hb⟩;have HB:=mkA hb;clear hb) | (go_at_call 40;(with_reducible refine (HP1.out _).mono ?_);rintro e w' ⟨rfl,rfl⟩) | (go_at_call 40;(with_reducible refine (HP2.out _).mono ?_);rintro e w' ⟨rfl,rfl⟩) | (go_at_call 167;(refine (Tryz.strings_ToLower_any T2 _ HTS.out (Lib.CaseVar_below HV.out HB.out) (Utf8Tabs_below HT.out HB.out)).mono ?_);rintro e w3 ⟨rfl,hb⟩;rw [HU.out];have HB3:=mkA (HB.out.trans (hb.mono HB.out.size));clear hb))
  go_loopg [6] U.size (fun kq v6 W => ∃ i:Nat,v6=.int .u64 (Lx.accU 16 LL i)∧Aside0 (i ≤ U.size∧kq=U.size - i∧∀ k x,k < i → LL[k]? = some x → Lx.dg x < 16)∧Aside0 (W.heap[w3.heap.size]? = some (.stringIter U i)∧Below w.heap.size w W))
  case atStart=>exact ⟨0,by rw [Lx.accU_zero],⟨Nat.zero_le _,rfl,fun k x h=>absurd h (Nat.not_lt_zero k)⟩,⟨World.iter_heap w3 U 0,show Below w.heap.size w (w3.alloc _) from HB3.out.alloc HB3.out.size _⟩⟩
  case round =>
    obtain ⟨i,rfl,HI,HW⟩:=hrel
    have hi:=HI.out.1
    have hacr:=Lx.accU_range 16 LL i
    have hac0:=hacr.1
    have hac1:=hacr.2
    by_cases hlt:i < U.size
    · obtain ⟨x,hx,hux,hx128⟩:=HUX.out i hlt
      have n0:=fun (ty:TypeId) => @Lib.run_next_ascii_at Tryz.prog wr w3.heap.size U i ty HW.out.1 hlt (by rw [hux];exact hx128)
      rw [hux] at n0
      obtain ⟨y,hy⟩:∃ y:Int,((Lib.lowerB x).toNat:Int)=y:=⟨_,rfl⟩
      rw [hy] at n0
      have hit:=Lib.iterAt_heap wr w3.heap.size U i (i + 1) HW.out.1
      have hbw:=Lib.below_iterAt HW.out.2 HB3.out.size U (i + 1)
      have HIT:=mkA hit
      have HBW:=mkA hbw
      have hasz:=Lib.iterAt_size wr w3.heap.size U (i + 1)
      have HASZ:=mkA hasz
      by_cases hd:Lx.dg x < 16
      · have HRC:=mkA (rune_dig Lx.dig16 x (wr.iterAt w3.heap.size U (i + 1)) hd)
        rw [hy] at HRC
        have hsx:=Lx.accU_succ 16 LL i x hx
        obtain ⟨dn,hdn⟩:∃ dn,Lx.dg x=dn:=⟨_,rfl⟩
        rw [hdn] at HRC hsx hd
        have hdn0:(0:Int) ≤ (dn:Int):=Int.natCast_nonneg _
        have hdnb:dn < 16:=by omega
        have HD:=mkA hdn
        have HSX:=mkA hsx
        have HX:=mkA hx
        have HDB:=mkA hd
        clear hx hux hx128 hy hit hbw hdn hsx hacr hasz hd
        go_wp2_with (first | (go_at_call 168;(refine HRC.out.mono ?_);rintro e w5 ⟨rfl,hb⟩;have HB5:=mkA hb;clear hb))
        go_roundg (U.size - (i + 1))
        case measure=>have:=HI.out;omega
        case rel =>
          refine ⟨i + 1,?_,⟨by omega,rfl,?_⟩,⟨?_,?_⟩⟩
          · rw [HSX.out];first | rfl | (rw [← u64_acc];rfl) | (rw [← u64_wrap];rfl)
          · intro k z hk hz
            by_cases hki:k < i
            · exact HI.out.2.2 k z hki hz
            · obtain rfl:k=i:=by omega
              have h9:=HX.out
              rw [hz] at h9
              rw [Option.some.inj h9,HD.out];exact HDB.out
          · have hlk:=(Array.getElem?_eq_some_iff.1 HIT.out).1
            exact (HB5.out.block _ hlk).trans HIT.out
          · exact HBW.out.trans (HB5.out.mono HBW.out.size)
      · have HRC:=mkA (rune_none Lx.dig16 x (wr.iterAt w3.heap.size U (i + 1)) hd)
        rw [hy] at HRC
        have HEND:=mkA (Lx.prog_bad 16 LL i x hx hd)
        clear hx hux hx128 hy hit hbw hacr hasz hd
        go_wp2_with (first | (go_at_call 168;(refine HRC.out.mono ?_);rintro e w5 ⟨rfl,hb⟩;have HB5:=mkA hb;clear hb))
        go_ret2
        rw [← HRR.out,HEND.out]
        exact ⟨rfl,HBW.out.trans (HB5.out.mono HBW.out.size)⟩
    · obtain rfl:i=U.size:=by omega
      have n1:=fun (ty:TypeId) => @Lib.run_next_end_at Tryz.prog wr w3.heap.size U U.size ty HW.out.1 hlt
      have HEND:=mkA (Lx.prog_end 16 LL U.size HUL.out HI.out.2.2)
      clear hacr
      go_wp2_with fail
      go_ret2
      rw [← HRR.out,HEND.out]
      rw [show decide (0 < U.size) = !eb from by rw [← HEB.out,HUS.out];by_cases h:T2.size=0 <;> simp [h];omega]
      exact ⟨rfl,HW.out.2⟩
theorem numbers_any (s:ByteArray) (w:World) (ha:Lx.Asc s) (hs:s.size ≤ 100000) (hT:Lib.Utf8Tabs 6 7 w) (hV:Lib.CaseVar 5 Lib.caseA w) :
    Calls Tryz.prog 138 #[.string s] w fun e w'=>e=.returned (.tuple #[.int .i64 (Lx.progNum s.data.toList).1,.bool (Lx.progNum s.data.toList).2])∧Below w.heap.size w w':=by
  obtain ⟨T,hTT⟩:∃ T:ByteArray,T=⟨(Lx.cutR s.data.toList).toArray⟩:=⟨_,rfl⟩
  have hTl:T.data.toList=Lx.cutR s.data.toList:=by rw [hTT]
  clear hTT
  have hcut:=cut_at s T w ha hs hT hTl
  have hsub:T.data.toList.length ≤ s.data.toList.length∧Lx.Asc T:=by
    obtain ⟨u,e,-,-⟩:=Lx.cut_eq s.data.toList
    rw [← hTl] at e
    refine ⟨by rw [e,List.length_append];omega,fun x hx=>ha x (by rw [e];exact List.mem_append_left _ hx)⟩
  obtain ⟨hTs,hTa⟩:=hsub
  rw [Lx.list_size,Lx.list_size] at hTs
  unfold Lx.progNum
  rw [← hTl]
  have hls:=Lx.list_size T
  have hno:∀ (c d:UInt8),(T.size ≤ 1 ∨ Lx.B T 0 ≠ (c.toNat:Int) ∨ Lx.B T 1 ≠ (d.toNat:Int)) → Lib.hasPrefix T.data.toList (⟨#[c,d]⟩:ByteArray).data.toList=false:=by
    intro c d h
    rw [Bool.eq_false_iff]
    intro hp
    have hp:=List.isPrefixOf_iff_prefix.1 hp
    obtain ⟨r,hr⟩:=hp
    have hr:c :: d :: r=T.data.toList:=hr
    have hlen:=congrArg List.length hr
    simp only [List.length_cons] at hlen
    rcases h with h | h | h
    · omega
    · rw [Lx.B_data T 0 (by omega)] at h
      apply h
      have:T.data.toList[0]'(by omega)=c:=by simp [← hr]
      rw [this]
    · rw [Lx.B_data T 1 (by omega)] at h
      apply h
      have:T.data.toList[1]'(by omega)=d:=by simp [← hr]
      rw [this]
  match hm:T.data.toList with
  | [] =>
    rw [hm] at hls
    simp at hls
    have h:=number_short s T w (by omega) hTa hT hV hcut (pre_no T ⟨#[48,120]⟩ false (hno 48 120 (.inl (by omega)))) (pre_no T ⟨#[48,88]⟩ false (hno 48 88 (.inl (by omega)))) (by omega)
    rw [hm] at h
    exact h
  | [x] =>
    rw [hm] at hls
    simp at hls
    have h:=number_short s T w (by omega) hTa hT hV hcut (pre_no T ⟨#[48,120]⟩ false (hno 48 120 (.inl (by omega)))) (pre_no T ⟨#[48,88]⟩ false (hno 48 88 (.inl (by omega)))) (by omega)
    rw [hm] at h
    exact h
  | x :: y :: q =>
    have hls2:q.length + 2=T.size:=by rw [hm] at hls;simpa using hls
    have b0:Lx.B T 0=(x.toNat:Int):=by
      rw [Lx.B_data T 0 (by rw [hm];simp)]
      have:T.data.toList[0]'(by rw [hm];simp)=x:=by simp [hm]
      rw [this]
    have b1:Lx.B T 1=(y.toNat:Int):=by
      rw [Lx.B_data T 1 (by rw [hm];simp)]
      have:T.data.toList[1]'(by rw [hm];simp)=y:=by simp [hm]
      rw [this]
    unfold Lx.progCut
    dsimp only
    by_cases h48:x.toNat=48
    · rw [if_pos h48]
      obtain ⟨T2,hT2⟩:∃ T2,T.extract 2 T.size=T2:=⟨_,rfl⟩
      have hq:T2.data.toList=q:=by
        rw [← hT2,Lib.extract_data,hm]
        show List.take _ q=q
        exact List.take_of_length_le (by omega)
      have hT2a:Lx.Asc T2:=fun z hz=>hTa z (by rw [hm];rw [hq] at hz;simp [hz])
      have hT2s:T2.size ≤ 100000:=by rw [← Lx.list_size,hq];omega
      have hx48:x=48:=by apply UInt8.toNat_inj.1;rw [h48];rfl
      have hyes:∀ d:UInt8,y=d → Lib.hasPrefix T.data.toList (⟨#[48,d]⟩:ByteArray).data.toList=true:=by
        intro d hd
        rw [hm,hx48,hd]
        exact List.isPrefixOf_iff_prefix.2 ⟨q,rfl⟩
      by_cases h120:y.toNat=120
      · rw [if_pos (.inl h120)]
        have h:=number_hex s T T2 w (by omega) hT2a hT hV hcut (pre_no T ⟨#[48,120]⟩ true (hyes 120 (by apply UInt8.toNat_inj.1;rw [h120];rfl))) (pre_no T ⟨#[48,88]⟩ false (hno 48 88 (.inr (.inr (by rw [b1,h120];decide))))) (by omega) hT2 hT2s
        rw [hq] at h
        exact h
      · by_cases h88:y.toNat=88
        · rw [if_pos (.inr h88)]
          have h:=number_heX s T T2 w (by omega) hT2a hT hV hcut (pre_no T ⟨#[48,120]⟩ false (hno 48 120 (.inr (.inr (by rw [b1,h88];decide))))) (pre_no T ⟨#[48,88]⟩ true (hyes 88 (by apply UInt8.toNat_inj.1;rw [h88];rfl))) (by omega) hT2 hT2s
          rw [hq] at h
          exact h
        · rw [if_neg (by omega)]
          have h:=number_oct s T w (by omega) hTa hT hV hcut (pre_no T ⟨#[48,120]⟩ false (hno 48 120 (.inr (.inr (by rw [b1];have:(120:UInt8).toNat=120:=rfl;omega))))) (pre_no T ⟨#[48,88]⟩ false (hno 48 88 (.inr (.inr (by rw [b1];have:(88:UInt8).toNat=88:=rfl;omega))))) (by omega) (by rw [b0];omega)
          rw [hm] at h
          exact h
    · rw [if_neg h48]
      have h:=number_dec s T w (by omega) hTa hT hV hcut (pre_no T ⟨#[48,120]⟩ false (hno 48 120 (.inr (.inl (by rw [b0];intro e;apply h48;have:(48:UInt8).toNat=48:=rfl;omega))))) (pre_no T ⟨#[48,88]⟩ false (hno 48 88 (.inr (.inl (by rw [b0];intro e;apply h48;have:(48:UInt8).toNat=48:=rfl;omega))))) (by omega) (by rw [b0];omega)
      rw [hm] at h
      exact h
namespace Lx
structure Shf (u v:ByteArray) (d:Nat):Prop where
  size:u.size=v.size + d
  rest:u.data.toList.drop (1 + d)=v.data.toList.drop 1
variable {u v:ByteArray} {d:Nat}
theorem Shf.drop (h:Shf u v d) (a:Nat) (ha:1 ≤ a):u.data.toList.drop (a + d)=v.data.toList.drop a:=by
  obtain ⟨k,rfl⟩:∃ k,a=1 + k:=⟨a - 1,by omega⟩
  have e1:=List.drop_drop (l:=u.data.toList) (i:=k) (j:=1 + d)
  have e2:=List.drop_drop (l:=v.data.toList) (i:=k) (j:=1)
  rw [show 1 + k + d=(1 + d) + k by omega,← e1,← e2,h.rest]
theorem Shf.B (h:Shf u v d) (a:Nat) (ha:1 ≤ a):B u (a + d)=B v a:=by
  have hs:=h.size
  by_cases hl:a < v.size
  · obtain ⟨b,hb,-,hd⟩:=B_at u (a + d) (by omega)
    obtain ⟨c,hc,-,he⟩:=B_at v a hl
    rw [h.drop a ha,he] at hd
    rw [hb,hc,List.cons.inj hd |>.1]
  · rw [B_ge (by omega),B_ge (by omega)]
theorem Shf.B1 (h:Shf u v d) (a:Nat) (ha:1 ≤ a):Lx.B u (a + d + 1)=Lx.B v (a + 1):=by
  have:=h.B (a + 1) (by omega)
  rw [← this,show a + 1 + d=a + d + 1 by omega]
theorem Shf.B2 (h:Shf u v d) (a:Nat) (ha:1 ≤ a):Lx.B u (a + d + 2)=Lx.B v (a + 2):=by
  have:=h.B (a + 2) (by omega)
  rw [← this,show a + 2 + d=a + d + 2 by omega]
theorem Shf.Bm (h:Shf u v d) (a:Nat) (ha:2 ≤ a):Lx.B u (a + d - 1)=Lx.B v (a - 1):=by
  have:=h.B (a - 1) (by omega)
  rw [← this,show a - 1 + d=a + d - 1 by omega]
theorem Shf.Bn (h:Shf u v d) (a:Nat) (ha:3 ≤ a):Lx.B u (a + d - 2)=Lx.B v (a - 2):=by
  have:=h.B (a - 2) (by omega)
  rw [← this,show a - 2 + d=a + d - 2 by omega]
theorem Shf.ext (h:Shf u v d) (a e:Nat) (ha:1 ≤ a):u.extract (a + d) (e + d)=v.extract a e:=by
  apply ByteArray.ext
  apply Array.toList_inj.1
  rw [Lib.extract_data,Lib.extract_data,h.drop a ha,show e + d - (a + d)=e - a by omega]
theorem Shf.lt (h:Shf u v d) (i:Nat):(i + d < u.size)=(i < v.size):=by
  rw [h.size];exact propext ⟨fun _=>by omega,fun _=>by omega⟩
theorem Shf.runW (h:Shf u v d) (i:Nat) (hi:1 ≤ i):Lx.runW u (i + d)=Lx.runW v i + d:=by
  conv=>lhs;unfold Lx.runW
  conv=>rhs;unfold Lx.runW
  rw [h.B i hi]
  have hs:=h.size
  by_cases c:i < v.size
  · rw [dif_pos (by omega),dif_pos c]
    split
    · rw [show i + d + 1=(i + 1) + d by omega]
      exact Shf.runW h (i + 1) (by omega)
    · rfl
  · rw [dif_neg (by omega),dif_neg c]
  termination_by v.size - i
theorem Shf.runN (h:Shf u v d) (i:Nat) (hi:2 ≤ i):Lx.runN u (i + d)=Lx.runN v i + d:=by
  conv=>lhs;unfold Lx.runN
  conv=>rhs;unfold Lx.runN
  rw [h.B i (by omega),h.Bm i hi]
  have hs:=h.size
  by_cases c:i < v.size
  · rw [dif_pos (by omega),dif_pos c]
    split
    · rw [show i + d + 1=(i + 1) + d by omega]
      exact Shf.runN h (i + 1) (by omega)
    · rfl
  · rw [dif_neg (by omega),dif_neg c]
  termination_by v.size - i
theorem Shf.runQ (h:Shf u v d) (m:Int) (a i:Nat) (hi:1 ≤ i):Lx.runQ u m (a + d) (i + d)=Lx.runQ v m a i + d:=by
  conv=>lhs;unfold Lx.runQ
  conv=>rhs;unfold Lx.runQ
  rw [h.B i hi,h.B1 i hi]
  have hs:=h.size
  by_cases c:i < v.size
  · rw [dif_pos (by omega),dif_pos c]
    split
    · omega
    · split
      · rfl
      · split
        · split
          · rfl
          · rw [show i + d + 2=(i + 2) + d by omega]
            exact Shf.runQ h m a (i + 2) (by omega)
        · rw [show i + d + 1=(i + 1) + d by omega]
          exact Shf.runQ h m a (i + 1) (by omega)
  · rw [dif_neg (by omega),dif_neg c]
  termination_by v.size - i
theorem Shf.runL (h:Shf u v d) (a i:Nat) (ha:1 ≤ a) (hi:a < i):Lx.runL u (a + d) (i + d)=Lx.runL v a i + d:=by
  have hs:=h.size
  have hc:Lx.lineCut u (a + d) (i + d)=Lx.lineCut v a i + d:=by
    unfold Lx.lineCut
    rw [h.Bm i (by omega)]
    by_cases c:a + 1 < i∧Lx.B v (i - 1)=13
    · rw [if_pos ⟨by omega,c.2⟩,if_pos c];omega
    · rw [if_neg (fun e=>c ⟨by omega,e.2⟩),if_neg c]
  have h2:(Lx.B u (i + d)=10∧¬(Lx.B u (i + d - 1)=92 ∨ a + d + 2 ≤ i + d∧Lx.B u (i + d - 1)=13∧Lx.B u (i + d - 2)=92)) ↔ (Lx.B v i=10∧¬(Lx.B v (i - 1)=92 ∨ a + 2 ≤ i∧Lx.B v (i - 1)=13∧Lx.B v (i - 2)=92)):=by
    rw [h.B i (by omega),h.Bm i (by omega)]
    by_cases hh:a + 2 ≤ i
    · rw [h.Bn i (by omega)]
      simp [hh,show a + d + 2 ≤ i + d by omega]
    · simp [hh,show ¬ (a + d + 2 ≤ i + d) by omega]
  conv=>lhs;unfold Lx.runL
  conv=>rhs;unfold Lx.runL
  by_cases hl:i < v.size
  · rw [dif_pos hl,dif_pos (by omega)]
    by_cases hb:Lx.B v i=10∧¬(Lx.B v (i - 1)=92 ∨ a + 2 ≤ i∧Lx.B v (i - 1)=13∧Lx.B v (i - 2)=92)
    · rw [if_pos hb,if_pos (h2.2 hb),hc]
    · rw [if_neg hb,if_neg (fun hh=>hb (h2.1 hh)),show i + d + 1=(i + 1) + d by omega]
      exact Shf.runL h a (i + 1) ha (by omega)
  · rw [dif_neg hl,dif_neg (by omega)]
  termination_by v.size - i
theorem Shf.runC (h:Shf u v d) (i:Nat) (hi:1 ≤ i):Lx.runC u (i + d)=Lx.runC v i + d:=by
  conv=>lhs;unfold Lx.runC
  conv=>rhs;unfold Lx.runC
  rw [h.B i hi,h.B1 i hi]
  have hs:=h.size
  by_cases c:i < v.size
  · rw [dif_pos (by omega),dif_pos c]
    split
    · omega
    · rw [show i + d + 1=(i + 1) + d by omega]
      exact Shf.runC h (i + 1) (by omega)
  · rw [dif_neg (by omega),dif_neg c,hs]
  termination_by v.size - i
theorem Shf.runS (h:Shf u v d) (i:Nat) (hi:1 ≤ i):Lx.runS u (i + d)=Lx.runS v i + d:=by
  conv=>lhs;unfold Lx.runS
  conv=>rhs;unfold Lx.runS
  rw [h.B i hi]
  have hs:=h.size
  by_cases c:i < v.size
  · rw [dif_pos (by omega),dif_pos c]
    split
    · rfl
    · rw [show i + d + 1=(i + 1) + d by omega]
      exact Shf.runS h (i + 1) (by omega)
  · rw [dif_neg (by omega),dif_neg c]
  termination_by v.size - i
theorem Shf.commentEnd (h:Shf u v d) (a:Nat) (ha:1 ≤ a):Lx.commentEnd u (a + d)=Lx.commentEnd v a + d:=by
  unfold Lx.commentEnd
  rw [h.B a ha,h.B1 a ha,h.runS a ha,show a + d + 2=(a + 2) + d by omega,h.runC (a + 2) (by omega)]
  split
  · rfl
  · split <;> rfl
theorem Shf.pieceEnd (h:Shf u v d) (a:Nat) (ha:1 ≤ a):Lx.pieceEnd u (a + d)=Lx.pieceEnd v a + d:=by
  unfold Lx.pieceEnd
  rw [h.B a ha,h.B1 a ha,h.B2 a ha,h.commentEnd a ha]
  split
  · omega
  · split
    · split
      · omega
      · split <;> omega
    · rfl
theorem Shf.hasLf (h:Shf u v d) (i e:Nat) (hi:1 ≤ i):Lx.hasLf u (i + d) (e + d)=Lx.hasLf v i e:=by
  unfold Lx.hasLf
  by_cases c:i < e
  · rw [dif_pos (by omega),dif_pos c,h.B i hi,show i + d + 1=(i + 1) + d by omega,Shf.hasLf h (i + 1) e (by omega)]
  · rw [dif_neg (by omega),dif_neg c]
  termination_by e - i
theorem Shf.firstBehind (h:Shf u v d) (a e:Nat) (f:Bool) (ha:1 ≤ a):Lx.firstBehind u (a + d) (e + d) f=Lx.firstBehind v a e f:=by
  unfold Lx.firstBehind
  rw [h.B a ha,h.hasLf a e ha]
  by_cases c:e=a + 1∧(Lx.B v a=11 ∨ Lx.B v a=12 ∨ Lx.B v a=13)
  · rw [if_pos c,if_pos ⟨by omega,c.2⟩]
  · rw [if_neg c,if_neg (fun x=>c ⟨by omega,x.2⟩)]
theorem Shf.begins (h:Shf u v d) (a:Nat) (g:List UInt8) (ha:1 ≤ a):Lx.begins u (a + d) g=Lx.begins v a g:=by
  unfold Lx.begins
  rw [h.drop a ha]
theorem Shf.signOf (h:Shf u v d) (a:Nat) (ha:1 ≤ a):∀ (l:List (List UInt8)) (n:Nat),Lx.signOf u (a + d) l n=Lx.signOf v a l n
  | [],n=>rfl
  | g :: r,n=>by
    unfold Lx.signOf
    rw [h.begins a g ha]
    exact Shf.signOf h a ha r _
theorem Shf.signLen (h:Shf u v d) (a:Nat) (ha:1 ≤ a):Lx.signLen u (a + d)=Lx.signLen v a:=h.signOf a ha _ _
theorem Shf.quoteEnd (h:Shf u v d) (m:Int) (a:Nat) (ha:1 ≤ a):Lx.quoteEnd u m (a + d)=Lx.quoteEnd v m a + d:=by
  unfold Lx.quoteEnd
  rw [h.B a ha,show a + d + 1=(a + 1) + d by omega,h.runQ m a (a + 1) (by omega)]
  split <;> rfl
theorem Shf.gap (h:Shf u v d) (a:Nat) (f:Bool) (ha:1 ≤ a):Lx.gap u (a + d) f=((Lx.gap v a f).1 + d,(Lx.gap v a f).2):=by
  have hs:=h.size
  conv=>lhs;unfold Lx.gap
  conv=>rhs;unfold Lx.gap
  rw [h.pieceEnd a ha]
  by_cases hc:a < v.size∧a < Lx.pieceEnd v a
  · rw [dif_pos hc,dif_pos ⟨by omega,by omega⟩,h.firstBehind a _ f ha]
    exact Shf.gap h _ _ (by omega)
  · rw [dif_neg hc,dif_neg (fun e=>hc ⟨by omega,by omega⟩)]
  termination_by v.size - a
theorem Shf.tokEnd (h:Shf u v d) (a:Nat) (f:Bool) (ha:1 ≤ a):Lx.tokEnd u (a + d) f=((Lx.tokEnd v a f).1,(Lx.tokEnd v a f).2 + d):=by
  have hr:Lx.runL u (a + d) (a + d)=Lx.runL v a a + d ∨ Lx.B v a ≠ 35:=by
    by_cases hc:Lx.B v a=35
    · left
      rw [runL_first u (a + d) (by rw [h.B a ha];exact hc),runL_first v a hc,show a + d + 1=(a + 1) + d by omega,h.runL a (a + 1) ha (by omega)]
    · exact .inr hc
  unfold Lx.tokEnd
  rw [h.B a ha,h.B1 a ha,h.runW a ha,h.ext a _ ha,show a + d + 1=(a + 1) + d by omega,h.runN (a + 1) (by omega),h.quoteEnd _ a ha,h.signLen a ha]
  split
  · rename_i hc
    rw [hr.resolve_right (fun e=>e hc.2)]
  · split
    · rfl
    · split
      · rfl
      · split
        · by_cases c:Lx.quoteEnd v (Lx.B v a) a=a
          · rw [if_pos c,if_pos (by omega)]
          · rw [if_neg c,if_neg (by omega)]
        · split
          · rfl
          · rw [show a + d + Lx.signLen v a=a + Lx.signLen v a + d by omega]
def shT (d:Int) (t:Tok):Tok:=⟨t.k,t.b,t.t,t.a + d⟩
theorem Shf.toks (h:Shf u v d) (a:Nat) (f:Bool) (ha:1 ≤ a) (hs:a ≤ v.size):Lx.toks u (a + d) f=(Lx.toks v a f).map (shT d):=by
  have h1:=gap_b v a f hs
  have hsz:=h.size
  rw [toks_step u (a + d) f (by omega),toks_step v a f hs,h.gap a f ha]
  dsimp only
  by_cases hc:(Lx.gap v a f).1=v.size
  · rw [if_pos hc,if_pos (by omega),hsz,h.ext a _ ha]
    simp [shT]
  · have h2:=tokEnd_b v (Lx.gap v a f).1 (Lx.gap v a f).2 (by omega)
    have hdec:v.size - (Lx.tokEnd v (Lx.gap v a f).1 (Lx.gap v a f).2).2 < v.size - a:=by omega
    rw [if_neg hc,if_neg (by omega),h.tokEnd _ _ (by omega),h.ext a _ ha,h.ext _ _ (by omega)]
    dsimp only
    rw [Shf.toks h _ false (by omega) h2.2,List.map_cons]
    simp [shT]
  termination_by v.size - a
theorem wline_sh (add:Int) (d:Nat):∀ l:List Tok,(∀ t ∈ l,0 ≤ t.a) → wline add (l.map (shT d))=((wline (add + d) l).1,(wline (add + d) l).2.map (· + d))
  | [],_=>rfl
  | t :: r,h=>by
    have ih:=wline_sh add d r (fun x hx=>h x (List.mem_cons_of_mem _ hx))
    have h0:=h t List.mem_cons_self
    rw [List.map_cons]
    unfold wline
    rw [ih]
    by_cases c0:t.k=0
    · rw [if_pos (show (shT d t).k=0 from c0),if_pos c0]
    · rw [if_neg (show ¬ (shT d t).k=0 from c0),if_neg c0]
      by_cases c7:t.k=7
      · rw [if_pos (show (shT d t).k=7 from c7),if_pos c7]
        simp only [Option.map_some,shT]
        refine Prod.ext ?_ ?_
        · simp only [List.cons.injEq,and_true,Tok.mk.injEq,true_and];omega
        · simp only [Option.some.injEq];omega
      · rw [if_neg (show ¬ (shT d t).k=7 from c7),if_neg c7]
        refine Prod.ext ?_ rfl
        simp only [shT,List.cons.injEq,and_true,Tok.mk.injEq,true_and];omega
theorem wline_add (add:Int):∀ l:List Tok,wline add l=((wline 0 l).1.map (shT add),(wline 0 l).2)
  | []=>rfl
  | t :: r=>by
    have ih:=wline_add add r
    unfold wline
    rw [ih]
    split
    · rfl
    · split
      · simp [shT]
      · simp [shT]
theorem shT_shT (a b:Int) (l:List Tok):(l.map (shT a)).map (shT b)=l.map (shT (a + b)):=by
  rw [List.map_map]
  apply List.map_congr_left
  intro t _
  simp [shT];omega
theorem wd_add (s:ByteArray) (add:Int):wd s add=(wd s 0).map (shT add):=by
  unfold wd
  rw [wline_add add]
  dsimp only
  cases (wline 0 (Lx.toks (pre 59 s) 1 false)).2 with
  | none=>rfl
  | some n =>
    dsimp only
    by_cases hh:0 < n∧n ≤ s.size
    · rw [dif_pos hh,dif_pos hh,List.map_append,wd_add _ (add + n),wd_add _ (0 + n),shT_shT]
      congr 3;omega
    · rw [dif_neg hh,dif_neg hh]
  termination_by s.size
  decreasing_by all_goals (rw [ByteArray.size_extract];omega)
theorem pre_drop (c:UInt8) (s:ByteArray) (k:Nat):(pre c s).data.toList.drop (k + 1)=s.data.toList.drop k:=by rw [pre_list];rfl
theorem pre_shf (c:UInt8) (s:ByteArray) (p:Nat) (hp:p ≤ s.size):Shf (pre c s) (pre c (s.extract p s.size)) p:=by
  refine ⟨by rw [pre_size,pre_size,ByteArray.size_extract];omega,?_⟩
  rw [show 1 + p=p + 1 by omega,pre_drop,show (1:Nat)=0 + 1 by rfl,pre_drop,List.drop_zero,Lib.extract_data,List.take_of_length_le (by rw [List.length_drop,list_size];omega)]
theorem ext_ext (s:ByteArray) (p n:Nat) (hp:p ≤ s.size):(s.extract p s.size).extract n (s.extract p s.size).size=s.extract (n + p) s.size:=by
  apply ByteArray.ext
  apply Array.toList_inj.1
  rw [Lib.extract_data,Lib.extract_data,Lib.extract_data,ByteArray.size_extract]
  have hl:=list_size s
  rw [List.take_of_length_le (l:=s.data.toList.drop p) (by rw [List.length_drop];omega),List.drop_drop,List.take_of_length_le (by rw [List.length_drop];omega),List.take_of_length_le (by rw [List.length_drop];omega),show p + n=n + p by omega]
theorem wd_tail (s:ByteArray) (t:Tok) (r:List Tok) (h:wd s 0=t :: r) (hk:t.k=1 ∨ t.k=2) :
    ∃ p:Nat,t.a=(p:Int)∧p + t.t.size ≤ s.size∧0 < t.t.size∧r=wd (s.extract (p + t.t.size) s.size) (p + t.t.size:Nat)∧t.t=s.extract p (p + t.t.size):=by
  have hps:=pre_size 59 s
  have h1:=gap_b (pre 59 s) 1 false (by omega)
  unfold wd at h
  rw [toks_step (pre 59 s) 1 false (by omega)] at h
  by_cases hg:(Lx.gap (pre 59 s) 1 false).1=(pre 59 s).size
  · rw [if_pos hg] at h
    simp [wline] at h
  · rw [if_neg hg] at h
    obtain ⟨g,hgg⟩:∃ g,Lx.gap (pre 59 s) 1 false=g:=⟨_,rfl⟩
    rw [hgg] at h hg h1
    have hB:=tokEnd_b (pre 59 s) g.1 g.2 (by omega)
    obtain ⟨e,he⟩:∃ e,Lx.tokEnd (pre 59 s) g.1 g.2=e:=⟨_,rfl⟩
    rw [he] at h hB
    have hk0:e.1 ≠ 0:=by
      rw [← he]
      unfold Lx.tokEnd
      repeat' split
      all_goals simp
    have hq:∃ q,e.2=1 + q:=⟨e.2 - 1,by omega⟩
    obtain ⟨q,hq⟩:=hq
    have hsf:=pre_shf 59 s q (by omega)
    have hps2:=pre_size 59 (s.extract q s.size)
    have htk:=hsf.toks 1 false (Nat.le_refl _) (by omega)
    rw [← hq] at htk
    rw [htk] at h
    have hna:∀ t ∈ Lx.toks (pre 59 (s.extract q s.size)) 1 false,0 ≤ t.a:=by
      intro t ht
      obtain ⟨i,hi⟩:=List.mem_iff_getElem?.1 ht
      have:=toks_asc (pre 59 (s.extract q s.size)) 1 false (by omega) i t hi
      omega
    have hws:=wline_sh 0 q _ hna
    unfold wline at h
    rw [hws] at h
    dsimp only at h
    rw [if_neg hk0] at h
    by_cases h7:e.1=7
    · rw [if_pos h7] at h
      dsimp only at h
      split at h
      · have h6:=(List.cons.inj h).1
        rw [← h6] at hk
        simp at hk
      · have h6:=(List.cons.inj h).1
        rw [← h6] at hk
        simp at hk
    · rw [if_neg h7] at h
      dsimp only at h
      have hex:(pre 59 s).extract g.1 e.2=s.extract (g.1 - 1) q:=by
        apply ByteArray.ext
        apply Array.toList_inj.1
        rw [Lib.extract_data,Lib.extract_data]
        obtain ⟨k,hk⟩:∃ k,g.1=k + 1:=⟨g.1 - 1,by omega⟩
        rw [hk,pre_drop,hq]
        congr 1;omega
      have hsz:(s.extract (g.1 - 1) q).size=q - (g.1 - 1):=by rw [ByteArray.size_extract];omega
      have fin:∀ r',t :: r=⟨e.1,(pre 59 s).extract 1 g.1,(pre 59 s).extract g.1 e.2,(g.1:Int) - 1 + 0⟩ :: r' → r'=wd (s.extract q s.size) q → ∃ p:Nat,t.a=(p:Int)∧p + t.t.size ≤ s.size∧0 < t.t.size∧r=wd (s.extract (p + t.t.size) s.size) (p + t.t.size:Nat)∧t.t=s.extract p (p + t.t.size):=by
        intro r' e1 e2
        obtain ⟨e3,e4⟩:=List.cons.inj e1
        have e5:t.t=s.extract (g.1 - 1) q:=by rw [e3];exact hex
        have e6:t.t.size=q - (g.1 - 1):=by rw [e5];exact hsz
        refine ⟨g.1 - 1,by rw [e3];dsimp only;omega,by omega,by omega,?_,?_⟩
        · rw [e4,e2,e6,show g.1 - 1 + (q - (g.1 - 1))=q by omega]
        · rw [e6,show g.1 - 1 + (q - (g.1 - 1))=q by omega];exact e5
      have hwr:wd (s.extract q s.size) q=(match ((wline (0 + (q:Int)) (Lx.toks (pre 59 (s.extract q s.size)) 1 false)).2) with
        | none=>(wline (0 + (q:Int)) (Lx.toks (pre 59 (s.extract q s.size)) 1 false)).1
        | some n=>if h:0 < n∧n ≤ (s.extract q s.size).size then (wline (0 + (q:Int)) (Lx.toks (pre 59 (s.extract q s.size)) 1 false)).1 ++ wd ((s.extract q s.size).extract n (s.extract q s.size).size) ((q:Int) + n) else (wline (0 + (q:Int)) (Lx.toks (pre 59 (s.extract q s.size)) 1 false)).1):=by
        rw [Int.zero_add]
        conv=>lhs;unfold wd
        rfl
      obtain ⟨W,hW⟩:∃ W,wline (0 + (q:Int)) (Lx.toks (pre 59 (s.extract q s.size)) 1 false)=W:=⟨_,rfl⟩
      have hat:∀ n,W.2=some n → 0 < n∧n ≤ (s.extract q s.size).size:=by
        intro n hn
        rw [← hW] at hn
        obtain ⟨i,t',i1,i2,i3,-⟩:=wline_at _ _ n hn
        obtain ⟨l,b,e1,e2⟩:=toks_last (pre 59 (s.extract q s.size)) 1 false (by omega)
        have hm:=List.mem_of_getElem? i1
        rw [e1] at hm
        rcases List.mem_append.1 hm with hm | hm
        · obtain ⟨-,p,e3,e4,e5⟩:=e2 t' hm
          omega
        · rw [List.mem_singleton.1 hm] at i2
          cases i2
      rw [hW] at h hwr
      cases hn:W.2 with
      | none =>
        rw [hn] at h hwr
        exact fin _ h.symm hwr.symm
      | some n =>
        have hnn:=hat n hn
        rw [hn] at h hwr
        dsimp only [Option.map_some] at h hwr
        rw [dif_pos hnn,ext_ext s q n (by omega)] at hwr
        rw [ByteArray.size_extract] at hnn
        rw [dif_pos ⟨by omega,by omega⟩,List.cons_append] at h
        refine fin _ h.symm ?_
        rw [hwr]
        congr 2
        push_cast
        omega
end Lx
end Go.Proofs.YtjnafjgonoficaaGreatDoor
namespace Go.Proofs.YtjnafjgonoficaaGreatDoor
open Go.RowKit Go.Proofs.YtjnafjgonoficaaGreatDoorW.PrintWords
namespace Lx
structure KT (f:Tok → Tok):Prop where
  k:∀ t,(f t).k=t.k
  t:∀ t,(f t).t=t.t
def mapS (f:Tok → Tok) (S:ES):ES:=⟨S.l.map f,S.bad⟩
def mapR (f:Tok → Tok) (r:Option (Int × ES)):Option (Int × ES):=r.map fun p=>(p.1,mapS f p.2)
variable {f:Tok → Tok}
theorem isS_map (h:KT f) (S:ES) (g:List UInt8):isS (mapS f S) g=isS S g:=by
  unfold isS mapS
  cases S.l with
  | nil=>rfl
  | cons t r=>simp [h.k,h.t]
theorem tl_map (S:ES):(mapS f S).tl=mapS f S.tl:=by unfold ES.tl mapS;simp
theorem fail_map (S:ES):(mapS f S).fail=mapS f S.fail:=rfl
theorem findFrom_map (h:KT f) (lv:Nat) (S:ES):∀ (os:List (List UInt8 × Nat)) (j:Nat),findFrom lv (mapS f S) os j=findFrom lv S os j
  | [],j=>rfl
  | o :: r,j=>by
    unfold findFrom
    rw [isS_map h,findFrom_map h lv S r (j + 1)]
theorem isSign_map (h:KT f) (t:Tok):isSign (f t)=isSign t:=by unfold isSign;rw [h.k,h.t]
theorem after_map (h:KT f):∀ l:List Tok,afterSigns (l.map f)=(afterSigns l).map f
  | []=>rfl
  | t :: r=>by
    have ih:=after_map h r
    unfold afterSigns at ih ⊢
    rw [List.map_cons,List.dropWhile_cons,List.dropWhile_cons,isSign_map h]
    split
    · exact ih
    · rfl
theorem signs_map (h:KT f):∀ l:List Tok,signsOf (l.map f)=signsOf l
  | []=>rfl
  | t :: r=>by
    have ih:=signs_map h r
    unfold signsOf at ih ⊢
    rw [List.map_cons,List.takeWhile_cons,List.takeWhile_cons,isSign_map h]
    split
    · rw [List.map_cons,List.map_cons,ih,h.t]
    · rfl
theorem defined_map (h:KT f) (val:ByteArray → Int × Bool) (S:ES):definedE val (mapS f S)=((definedE val S).1,mapS f (definedE val S).2):=by
  unfold definedE
  rw [isS_map h]
  have hT:(if isS S [40]=true then (mapS f S).tl else mapS f S)=mapS f (if isS S [40]=true then S.tl else S):=by
    split
    · exact tl_map S
    · rfl
  rw [hT]
  obtain ⟨U,hU⟩:∃ U,(if isS S [40]=true then S.tl else S)=U:=⟨_,rfl⟩
  rw [hU]
  obtain ⟨l,b⟩:=U
  cases l with
  | nil=>rfl
  | cons t r =>
    show (if (f t).k=1 then (if (isS S [40] && !(isS ⟨r.map f,b⟩ [41]))=true then (0,(⟨r.map f,true⟩:ES)) else (bit (val (f t).t).2,if isS S [40]=true then ⟨(r.map f).tail,b⟩ else ⟨r.map f,b⟩)) else (0,⟨f t :: r.map f,true⟩))=_
    dsimp only [mapS]
    rw [h.k,h.t]
    have h41:isS ⟨r.map f,b⟩ [41]=isS ⟨r,b⟩ [41]:=isS_map h ⟨r,b⟩ [41]
    rw [h41]
    split
    · split
      · rfl
      · split
        · simp
        · rfl
    · rfl
theorem eval_steps (h:KT f) (num val:ByteArray → Int × Bool):∀ m:Nat,
    (∀ lv S,binF num val m lv (mapS f S)=mapR f (binF num val m lv S))∧(∀ lv v S,loopF num val m lv v (mapS f S)=mapR f (loopF num val m lv v S)) ∧
    (∀ S,oneF num val m (mapS f S)=mapR f (oneF num val m S))∧(∀ S,operF num val m (mapS f S)=mapR f (operF num val m S)):=by
  intro m
  induction m with
  | zero=>exact ⟨fun _ _=>by unfold binF;rfl,fun _ _ _=>by unfold loopF;rfl,fun _=>by unfold oneF;rfl,fun _=>by unfold operF;rfl⟩
  | succ m ih =>
    obtain ⟨i1,i2,i3,i4⟩:=ih
    refine ⟨fun lv S => ?_,fun lv v S => ?_,fun S => ?_,fun S => ?_⟩
    · unfold binF
      rw [i1,i3]
      split
      · rfl
      · cases binF num val m (lv + 1) S with
        | none=>rfl
        | some p=>exact i2 _ _ _
    · unfold loopF
      rw [show findOp lv (mapS f S)=findOp lv S from findFrom_map h lv S _ _,tl_map]
      show (if S.bad=true then _ else _)=_
      split
      · rfl
      · cases findOp lv S with
        | none=>rfl
        | some j =>
          dsimp only
          rw [i1]
          cases binF num val m (lv + 1) S.tl with
          | none=>rfl
          | some p=>exact i2 _ _ _
    · unfold oneF
      have e1:(⟨afterSigns (mapS f S).l,(mapS f S).bad⟩:ES)=mapS f ⟨afterSigns S.l,S.bad⟩:=by unfold mapS;dsimp only;rw [after_map h]
      rw [e1,i4,show signsOf (mapS f S).l=signsOf S.l from signs_map h S.l]
      cases operF num val m ⟨afterSigns S.l,S.bad⟩ with
      | none=>rfl
      | some p=>rfl
    · unfold operF
      rw [isS_map h,tl_map,i1]
      show (if S.bad=true then _ else _)=_
      split
      · rfl
      · rename_i hb
        cases hl:S.l with
        | nil =>
          have:(mapS f S).l=[]:=by unfold mapS;rw [hl];rfl
          rw [this];rfl
        | cons t r =>
          have:(mapS f S).l=f t :: r.map f:=by unfold mapS;rw [hl];rfl
          rw [this]
          dsimp only
          rw [h.k,h.t,defined_map h]
          split
          · cases binF num val m 1 S.tl with
            | none=>rfl
            | some p =>
              obtain ⟨v,T⟩:=p
              dsimp only [mapR,Option.map_some]
              rw [isS_map h,tl_map,fail_map]
              split <;> rfl
          · split
            · split <;> rfl
            · split
              · rfl
              · split <;> rfl
theorem evalF_map (h:KT f) (num val:ByteArray → Int × Bool) (m:Nat) (l:List Tok):evalF num val m (l.map f)=evalF num val m l:=by
  unfold evalF
  have e:=(eval_steps h num val m).1 1 ⟨l,false⟩
  rw [show (⟨l.map f,false⟩:ES)=mapS f ⟨l,false⟩ from rfl,e]
  cases binF num val m 1 ⟨l,false⟩ with
  | none=>rfl
  | some p =>
    obtain ⟨v,T⟩:=p
    dsimp only [mapR,Option.map_some,mapS]
    simp only [List.isEmpty_map]
noncomputable def evR (num val:ByteArray → Int × Bool) (l:List Tok):Int × Bool:=Classical.choose (Classical.choose_spec (eval_some num val l))
theorem evR_spec (num val:ByteArray → Int × Bool) (l:List Tok):∃ m,evalF num val m l=some (evR num val l):=⟨_,Classical.choose_spec (Classical.choose_spec (eval_some num val l))⟩
theorem evalF_more {num val:ByteArray → Int × Bool} {m m':Nat} {l:List Tok} {R:Int × Bool} (h:evalF num val m l=some R) (hm:m ≤ m'):evalF num val m' l=some R:=by
  unfold evalF at h ⊢
  cases hb:binF num val m 1 ⟨l,false⟩ with
  | none=>rw [hb] at h;cases h
  | some p =>
    rw [hb] at h
    rw [bin_fuel hb hm]
    exact h
theorem evR_of {num val:ByteArray → Int × Bool} {m:Nat} {l:List Tok} {R:Int × Bool} (h:evalF num val m l=some R):evR num val l=R:=by
  obtain ⟨k,hk⟩:=evR_spec num val l
  have h1:=evalF_more h (Nat.le_max_left m k)
  have h2:=evalF_more hk (Nat.le_max_right m k)
  rw [h1] at h2
  exact (Option.some.inj h2).symm
theorem evR_map (h:KT f) (num val:ByteArray → Int × Bool) (l:List Tok):evR num val (l.map f)=evR num val l:=by
  obtain ⟨k,hk⟩:=evR_spec num val l
  refine evR_of (m:=k) ?_
  rw [evalF_map h,hk]
theorem shT_kt (d:Int):KT (shT d):=⟨fun _=>rfl,fun _=>rfl⟩
end Lx
end Go.Proofs.YtjnafjgonoficaaGreatDoor
namespace Go.Proofs.YtjnafjgonoficaaGreatDoor
open Go.RowKit Go.Proofs.YtjnafjgonoficaaGreatDoorW.PrintWords
theorem made_zeros (W:World) (n:Nat) (hn:n ≤ 1000000):Ints (W.alloc (.cells (madeCells #[.int .i64 0] n) 3)) (.slice (some ⟨W.heap.size,0,none⟩) n n) (List.replicate n 0):=by
  have h:=World.ownsRow_lit (base:=W.heap.size) (e:=3) (size:=1) W (madeCells #[.int .i64 0] n) n (Nat.le_refl _) (by unfold maxLen;omega) (by simp [size_madeCells])
  rw [toList_madeCells_one] at h
  have e:List.replicate n (Value.int .i64 0)=intCells (List.replicate n 0):=by unfold intCells;rw [List.map_replicate]
  rw [e] at h
  have h2:(W.alloc (.cells (madeCells #[.int .i64 0] n) 3)).ownsRow W.heap.size 3 1 (.slice (some ⟨W.heap.size,0,none⟩) n n) (List.replicate n (0:Int)).length (intCells (List.replicate n 0)):=by rw [List.length_replicate];exact h
  exact own_ints h2
set_option maxRecDepth 100000 in
theorem first_calls (v:Value) (L:List Lx.Tok) (w:World) (hT:Tks w v L) (hlen:L.length ≤ 100000) (hs:∀ t ∈ L,t.t.size ≤ 20000) (hm:MaxLen w) (hbl:Blanks w) (h5:5 ≤ w.heap.size)
    (hE:(Lx.groups (L.map Lx.kindOf)).2.1=0) (outs:List (List (Int × Int))) (hP:Lx.places (Lx.groups (L.map Lx.kindOf)).1 L.length=some outs) (hSm:Lx.Small (Lx.groups (L.map Lx.kindOf)).1) (hol:outs.length=L.length) (hF:Lx.Fits (List.replicate (Lx.groups (L.map Lx.kindOf)).1.length 0) (Lx.groups (L.map Lx.kindOf)).1 outs) :
    Calls Tryz.prog 22 #[v] w fun e w' => ∃ rv,e=.returned (.tuple #[rv,.int .i64 0])∧w'.ownsRow w.heap.size 3 1 rv (Lx.viewL (List.replicate (Lx.groups (L.map Lx.kindOf)).1.length 0) L outs 0).length (intCells (Lx.viewL (List.replicate (Lx.groups (L.map Lx.kindOf)).1.length 0) L outs 0))∧Below w.heap.size w w':=by
  have HG:=mkA (condGroups_calls v L w hT hlen hs hm hbl h5)
  have hgl:=hSm.1
  obtain ⟨gn,hgn⟩:∃ gn,(Lx.groups (L.map Lx.kindOf)).1.length=gn:=⟨_,rfl⟩
  rw [hgn] at hgl hF ⊢
  have HV:=mkA (fun (cv:Value) (W:World) (hT:Tks W v L) (hI:Ints W cv (List.replicate gn 0)) (hm:MaxLen W) (hbl:Blanks W) (h5:5 ≤ W.heap.size)=>view_calls v cv L (List.replicate gn 0) W hT hI hlen hs hm hbl h5 hE outs hP hSm hol hF)
  have HTT:=mkA hT
  have HM:=mkA hm
  have HBL:=mkA hbl
  have H5:=mkA h5
  have HE:=mkA hE
  have HGN:=mkA hgn
  have hmk:=print_make_of (P:=Tryz.prog) 39 3 (.int .i64 0) 8 Tryz.underlying39 (by kernel_rfl) rfl (by decide) gn (by omega)
  clear hT hm hbl h5 hE hs hP hSm hol hF hgn
  go_enter Tryz.func22,Tryz.ntmps22
  go_wp2_with (first | (go_at_call 16;(refine HG.out.mono ?_);rintro e w1 ⟨gv,rfl,hgrp,hb⟩;rw [HE.out];have HB:=mkA hb;have hgv:∃ A c,gv=.slice A gn c:=(by obtain ⟨ls,e1,e2,e3⟩:=hgrp;rw [HGN.out] at e2;exact own_slice e2);obtain ⟨GA,GC,rfl⟩:=hgv;clear hgrp hb) | (go_at_call 20;(refine (HV.out _ _ ?_ (made_zeros w1 gn (by omega)) ?_ ?_ ?_).mono ?_);exact HTT.out.below (HB.out.alloc HB.out.size _);exact HM.out.belowN (HB.out.alloc HB.out.size _) (by have:=H5.out;omega);exact HBL.out.below (HB.out.alloc HB.out.size _) (by have:=H5.out;omega);(have h1:=HB.out.size;have h2:=H5.out;simp;omega);rintro e w2 ⟨rv,rfl,hrv,hb2⟩;have HRV:=mkA hrv;have HB2:=mkA hb2;clear hrv hb2))
  go_ret2
  have h1:=HB.out.size
  exact ⟨_,rfl,own_lower HRV.out (by simp;omega),(HB.out.alloc HB.out.size _).trans (HB2.out.mono (by simp;omega))⟩
end Go.Proofs.YtjnafjgonoficaaGreatDoor
