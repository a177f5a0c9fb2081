/-
  The reference's whole numbers and its names. Conditions: the definitions lie in memory.
  What a number of one digit comes to. Conditions: the library's tables are as their text lays them.
  The program's numbers: what is cut off at the end, where a rune stands. Conditions: the text is ASCII; the library's tables are as their text lays them.
  What is known of every word of a text: a number is of ASCII, not empty; the word 'defined' is a name; a name is not empty; no word is longer than the text. No program in sight. Conditions: none.
-/
import Derived.LoopN
import Derived.Test.YtjnafjgonoficaaGreatDoorF15
import Derived.Test.YtjnafjgonoficaaGreatDoorF12
set_option linter.unusedVariables false
set_option linter.unusedSimpArgs false
namespace Go.Proofs.YtjnafjgonoficaaGreatDoor
open Go.RowKit Go.Proofs.YtjnafjgonoficaaGreatDoorW.PrintWords
theorem tdiv_law (m d:Int) (hm:0 ≤ m) (hd:0 ≤ d∧d ≤ 9):(-9223372036854775808 + d).tdiv 10 = -((9223372036854775808 - d) / 10):=by
  rw [show (-9223372036854775808 + d) = -(9223372036854775808 - d) by omega,Int.neg_tdiv,Int.tdiv_eq_ediv_of_nonneg (by omega)]
theorem whMag_stop (s:ByteArray) (m i:Nat) (h:i < s.size) (hx:¬ (48 ≤ Lx.B s i∧Lx.B s i ≤ 57)):Lx.whMag m (s.data.toList.drop i)=none:=by
  have hl:i < s.data.toList.length:=by rw [Array.length_toList];exact h
  rw [List.drop_eq_getElem_cons hl]
  unfold Lx.whMag
  rw [Lx.B_data s i hl] at hx
  rw [if_neg (by omega)]
theorem whMag_over (s:ByteArray) (m i d:Nat) (h:i < s.size) (hx:Lx.B s i=((d + 48:Nat):Int)) (hd:d ≤ 9) (ho:9223372036854775808 < m * 10 + d):Lx.whMag m (s.data.toList.drop i)=none:=by
  have hl:i < s.data.toList.length:=by rw [Array.length_toList];exact h
  rw [List.drop_eq_getElem_cons hl]
  unfold Lx.whMag
  rw [Lx.B_data s i hl] at hx
  rw [if_pos (by omega),if_pos (by omega)]
theorem whMag_more (s:ByteArray) (m i d:Nat) (h:i < s.size) (hx:Lx.B s i=((d + 48:Nat):Int)) (hd:d ≤ 9) (ho:m * 10 + d ≤ 9223372036854775808):Lx.whMag m (s.data.toList.drop i)=Lx.whMag (m * 10 + d) (s.data.toList.drop (i + 1)):=by
  have hl:i < s.data.toList.length:=by rw [Array.length_toList];exact h
  rw [List.drop_eq_getElem_cons hl]
  rw [Lx.B_data s i hl] at hx
  have e:s.data.toList[i].toNat - 48=d:=by omega
  show Lx.whMag m (_ :: _)=_
  rw [Lx.whMag,if_pos (by omega),e,if_neg (by omega)]
theorem whSign_of {neg:Bool} {r:List UInt8} (hr:r ≠ []) {R:Int × Bool}:(Lx.whMag 0 r=none → Lx.whSign neg r=(0,false))∧(∀ u,Lx.whMag 0 r=some u → Lx.whSign neg r=if neg=true then (-(u:Int),true) else if u=9223372036854775808 then (0,false) else ((u:Int),true)):=by
  unfold Lx.whSign
  rw [if_neg hr]
  exact ⟨fun h=>by rw [h],fun u h=>by rw [h]⟩
theorem drop_ne (s:ByteArray) (a:Nat) (h:a < s.size):s.data.toList.drop a ≠ []:=by
  intro e
  have h1:=congrArg List.length e
  have h2:s.data.size=s.size:=rfl
  rw [List.length_drop,Array.length_toList] at h1
  simp at h1
  omega
set_option maxRecDepth 100000 in
set_option maxHeartbeats 8000000 in
theorem whole_minus_calls (s:ByteArray) (w:World) (hs:s.size ≤ 1000000) (h1:1 < s.size) (h45:Lx.B s 0=45):Calls Tryz.prog 108 #[.string s] w fun e w'=>e=.returned (.tuple #[.int .i64 (Lx.whSign true (s.data.toList.drop 1)).1,.bool (Lx.whSign true (s.data.toList.drop 1)).2])∧w'=w:=by
  have h0:0 < s.size:=by omega
  have hg0:=B_get s 0 h0
  have hge:s.toList.isEmpty=false:=by rw [emptyB s];exact decide_eq_false (by omega)
  have h45:(Lx.B s 0 == 45)=true:=beq_iff_eq.mpr h45
  have h0i:(0:Int) < (s.size:Int):=by omega
  have h1n:((1:Int) == (s.size:Int))=false:=beq_eq_false_iff_ne.mpr (by omega)
  have HA:=mkA (show 1 ≤ s.size by omega)
  have hrr:=whSign_of (neg:=true) (r:=s.data.toList.drop 1) (R:=(0,false)) (drop_ne s 1 (by omega))
  obtain ⟨RR,hRR⟩:∃ RR,Lx.whSign true (s.data.toList.drop 1)=RR:=⟨_,rfl⟩
  rw [hRR] at hrr ⊢
  have HRR:=mkA hrr
  clear hRR hrr
  go_enter Tryz.func108,Tryz.ntmps108
  go_wp2_with fail
  go_loopg [6,7] (s.size - 1) (fun kq v6 v7 W => ∃ m i:Nat,v6=.int .i64 (-(m:Int))∧v7=.int .i64 i∧Aside0 (1 ≤ i∧i ≤ s.size∧kq=s.size - i∧m ≤ 9223372036854775808∧Lx.whMag m (s.data.toList.drop i)=Lx.whMag 0 (s.data.toList.drop 1))∧W=w)
  case atStart=>exact ⟨0,1,rfl,rfl,⟨Nat.le_refl _,HA.out,rfl,by omega,rfl⟩,rfl⟩
  case round =>
    obtain ⟨m,i,rfl,rfl,HI,rfl⟩:=hrel
    have hi:=HI.out.2.1
    have hm:=HI.out.2.2.2.1
    have hi0:(0:Int) ≤ (i:Int):=Int.natCast_nonneg _
    have hm0:(0:Int) ≤ (m:Int):=Int.natCast_nonneg _
    by_cases hlt:i < s.size
    · have hgi:=B_get s i hlt
      have hlti:(i:Int) < (s.size:Int):=by omega
      obtain ⟨x,hx⟩:∃ x,Lx.B s i=x:=⟨_,rfl⟩
      have hxr:=Lx.B_range s i
      rw [hx] at hgi hxr
      have hx0:=hxr.1
      have hx9:=hxr.2
      have HX:=mkA hx
      clear hx hxr
      by_cases hd1:x < 48
      · have hend:=HRR.out.1 (by rw [← HI.out.2.2.2.2];exact whMag_stop s m i hlt (by rw [HX.out];omega))
        subst hend
        go_wp2_with fail
        go_ret2
        exact ⟨rfl,rfl⟩
      · by_cases hd2:57 < x
        · have hend:=HRR.out.1 (by rw [← HI.out.2.2.2.2];exact whMag_stop s m i hlt (by rw [HX.out];omega))
          subst hend
          go_wp2_with fail
          go_ret2
          exact ⟨rfl,rfl⟩
        · obtain ⟨d,hd⟩:∃ d:Nat,x=((d + 48:Nat):Int):=⟨(x - 48).toNat,by omega⟩
          have hd9:d ≤ 9:=by omega
          have HD:=mkA hd
          have hsub:IntKind.u8.wrap (x - 48)=(d:Int):=by rw [wrap_u8 (by omega) (by omega)];omega
          have htd:=tdiv_law m d hm0 (by omega)
          obtain ⟨tq,htq⟩:∃ tq:Int,(9223372036854775808 - (d:Int)) / 10=tq:=⟨_,rfl⟩
          rw [htq] at htd
          have ht0:0 ≤ tq:=by omega
          have ht9:tq ≤ 922337203685477580:=by omega
          by_cases ho:9223372036854775808 < m * 10 + d
          · have hend:=HRR.out.1 (by rw [← HI.out.2.2.2.2];exact whMag_over s m i d hlt (by rw [HX.out];exact hd) hd9 ho)
            have hlt2:-(m:Int) < -tq:=by omega
            clear hd
            subst hend
            go_wp2_with fail
            go_ret2
            exact ⟨rfl,rfl⟩
          · have hlt2:¬ (-(m:Int) < -tq):=by omega
            have hmore:=whMag_more s m i d hlt (by rw [HX.out];exact hd) hd9 (by omega)
            have HM:=mkA hmore
            have hm10:(m:Int) * 10 + (d:Int) ≤ 9223372036854775808:=by omega
            clear hmore hd
            go_wp2_with fail
            go_roundg (s.size - (i + 1))
            case measure=>have:=HI.out;omega
            case rel=>exact ⟨m * 10 + d,i + 1,by go_num,by go_num,⟨by have:=HI.out.1;omega,by omega,rfl,by omega,by rw [← HM.out];exact HI.out.2.2.2.2⟩,rfl⟩
    · have hend:=HRR.out.2 m (by rw [← HI.out.2.2.2.2,List.drop_eq_nil_of_le (by rw [Array.length_toList];show s.size ≤ i;omega)];rfl)
      simp only [if_true] at hend
      subst hend
      go_wp2_with fail
      go_ret2
      exact ⟨rfl,rfl⟩
set_option maxRecDepth 100000 in
set_option maxHeartbeats 8000000 in
theorem whole_plus_calls (s:ByteArray) (w:World) (hs:s.size ≤ 1000000) (h1:1 < s.size) (h43:Lx.B s 0=43):Calls Tryz.prog 108 #[.string s] w fun e w'=>e=.returned (.tuple #[.int .i64 (Lx.whSign false (s.data.toList.drop 1)).1,.bool (Lx.whSign false (s.data.toList.drop 1)).2])∧w'=w:=by
  have h0:0 < s.size:=by omega
  have hg0:=B_get s 0 h0
  have hge:s.toList.isEmpty=false:=by rw [emptyB s];exact decide_eq_false (by omega)
  have h45:(Lx.B s 0 == 45)=false:=beq_eq_false_iff_ne.mpr (by omega)
  have h43:(Lx.B s 0 == 43)=true:=beq_iff_eq.mpr h43
  have h0i:(0:Int) < (s.size:Int):=by omega
  have h1n:((1:Int) == (s.size:Int))=false:=beq_eq_false_iff_ne.mpr (by omega)
  have HA:=mkA (show 1 ≤ s.size by omega)
  have hrr:=whSign_of (neg:=false) (r:=s.data.toList.drop 1) (R:=(0,false)) (drop_ne s 1 (by omega))
  obtain ⟨RR,hRR⟩:∃ RR,Lx.whSign false (s.data.toList.drop 1)=RR:=⟨_,rfl⟩
  rw [hRR] at hrr ⊢
  have HRR:=mkA hrr
  clear hRR hrr
  go_enter Tryz.func108,Tryz.ntmps108
  go_wp2_with fail
  go_loopg [6,7] (s.size - 1) (fun kq v6 v7 W => ∃ m i:Nat,v6=.int .i64 (-(m:Int))∧v7=.int .i64 i∧Aside0 (1 ≤ i∧i ≤ s.size∧kq=s.size - i∧m ≤ 9223372036854775808∧Lx.whMag m (s.data.toList.drop i)=Lx.whMag 0 (s.data.toList.drop 1))∧W=w)
  case atStart=>exact ⟨0,1,rfl,rfl,⟨Nat.le_refl _,HA.out,rfl,by omega,rfl⟩,rfl⟩
  case round =>
    obtain ⟨m,i,rfl,rfl,HI,rfl⟩:=hrel
    have hi:=HI.out.2.1
    have hm:=HI.out.2.2.2.1
    have hi0:(0:Int) ≤ (i:Int):=Int.natCast_nonneg _
    have hm0:(0:Int) ≤ (m:Int):=Int.natCast_nonneg _
    by_cases hlt:i < s.size
    · have hgi:=B_get s i hlt
      have hlti:(i:Int) < (s.size:Int):=by omega
      obtain ⟨x,hx⟩:∃ x,Lx.B s i=x:=⟨_,rfl⟩
      have hxr:=Lx.B_range s i
      rw [hx] at hgi hxr
      have hx0:=hxr.1
      have hx9:=hxr.2
      have HX:=mkA hx
      clear hx hxr
      by_cases hd1:x < 48
      · have hend:=HRR.out.1 (by rw [← HI.out.2.2.2.2];exact whMag_stop s m i hlt (by rw [HX.out];omega))
        subst hend
        go_wp2_with fail
        go_ret2
        exact ⟨rfl,rfl⟩
      · by_cases hd2:57 < x
        · have hend:=HRR.out.1 (by rw [← HI.out.2.2.2.2];exact whMag_stop s m i hlt (by rw [HX.out];omega))
          subst hend
          go_wp2_with fail
          go_ret2
          exact ⟨rfl,rfl⟩
        · obtain ⟨d,hd⟩:∃ d:Nat,x=((d + 48:Nat):Int):=⟨(x - 48).toNat,by omega⟩
          have hd9:d ≤ 9:=by omega
          have HD:=mkA hd
          have hsub:IntKind.u8.wrap (x - 48)=(d:Int):=by rw [wrap_u8 (by omega) (by omega)];omega
          have htd:=tdiv_law m d hm0 (by omega)
          obtain ⟨tq,htq⟩:∃ tq:Int,(9223372036854775808 - (d:Int)) / 10=tq:=⟨_,rfl⟩
          rw [htq] at htd
          have ht0:0 ≤ tq:=by omega
          have ht9:tq ≤ 922337203685477580:=by omega
          by_cases ho:9223372036854775808 < m * 10 + d
          · have hend:=HRR.out.1 (by rw [← HI.out.2.2.2.2];exact whMag_over s m i d hlt (by rw [HX.out];exact hd) hd9 ho)
            have hlt2:-(m:Int) < -tq:=by omega
            clear hd
            subst hend
            go_wp2_with fail
            go_ret2
            exact ⟨rfl,rfl⟩
          · have hlt2:¬ (-(m:Int) < -tq):=by omega
            have hmore:=whMag_more s m i d hlt (by rw [HX.out];exact hd) hd9 (by omega)
            have HM:=mkA hmore
            have hm10:(m:Int) * 10 + (d:Int) ≤ 9223372036854775808:=by omega
            clear hmore hd
            go_wp2_with fail
            go_roundg (s.size - (i + 1))
            case measure=>have:=HI.out;omega
            case rel=>exact ⟨m * 10 + d,i + 1,by go_num,by go_num,⟨by have:=HI.out.1;omega,by omega,rfl,by omega,by rw [← HM.out];exact HI.out.2.2.2.2⟩,rfl⟩
    · have hend:=HRR.out.2 m (by rw [← HI.out.2.2.2.2,List.drop_eq_nil_of_le (by rw [Array.length_toList];show s.size ≤ i;omega)];rfl)
      simp only [Bool.false_eq_true,if_false] at hend
      by_cases hmx:m=9223372036854775808
      · rw [if_pos hmx] at hend
        subst hend
        subst hmx
        go_wp2_with fail
        go_ret2
        exact ⟨rfl,rfl⟩
      · rw [if_neg hmx] at hend
        subst hend
        have hmn:(-(m:Int) == -9223372036854775808)=false:=beq_eq_false_iff_ne.mpr (by omega)
        have hmi:(m:Int) < 9223372036854775808:=by omega
        go_wp2_with fail
        go_ret2
        exact ⟨rfl,rfl⟩
set_option maxRecDepth 100000 in
set_option maxHeartbeats 8000000 in
theorem whole_bare_calls (s:ByteArray) (w:World) (hs:s.size ≤ 1000000) (h1:0 < s.size) (h45:Lx.B s 0 ≠ 45) (h43:Lx.B s 0 ≠ 43):Calls Tryz.prog 108 #[.string s] w fun e w'=>e=.returned (.tuple #[.int .i64 (Lx.whSign false (s.data.toList.drop 0)).1,.bool (Lx.whSign false (s.data.toList.drop 0)).2])∧w'=w:=by
  have h0:0 < s.size:=by omega
  have hg0:=B_get s 0 h0
  have hge:s.toList.isEmpty=false:=by rw [emptyB s];exact decide_eq_false (by omega)
  have h45:(Lx.B s 0 == 45)=false:=beq_eq_false_iff_ne.mpr h45
  have h43:(Lx.B s 0 == 43)=false:=beq_eq_false_iff_ne.mpr h43
  have h0i:(0:Int) < (s.size:Int):=by omega
  have h1n:((0:Int) == (s.size:Int))=false:=beq_eq_false_iff_ne.mpr (by omega)
  have HA:=mkA (show 0 ≤ s.size by omega)
  have hrr:=whSign_of (neg:=false) (r:=s.data.toList.drop 0) (R:=(0,false)) (drop_ne s 0 (by omega))
  obtain ⟨RR,hRR⟩:∃ RR,Lx.whSign false (s.data.toList.drop 0)=RR:=⟨_,rfl⟩
  rw [hRR] at hrr ⊢
  have HRR:=mkA hrr
  clear hRR hrr
  go_enter Tryz.func108,Tryz.ntmps108
  go_wp2_with fail
  go_loopg [6,7] (s.size - 0) (fun kq v6 v7 W => ∃ m i:Nat,v6=.int .i64 (-(m:Int))∧v7=.int .i64 i∧Aside0 (0 ≤ i∧i ≤ s.size∧kq=s.size - i∧m ≤ 9223372036854775808∧Lx.whMag m (s.data.toList.drop i)=Lx.whMag 0 (s.data.toList.drop 0))∧W=w)
  case atStart=>exact ⟨0,0,rfl,rfl,⟨Nat.le_refl _,HA.out,rfl,by omega,rfl⟩,rfl⟩
  case round =>
    obtain ⟨m,i,rfl,rfl,HI,rfl⟩:=hrel
    have hi:=HI.out.2.1
    have hm:=HI.out.2.2.2.1
    have hi0:(0:Int) ≤ (i:Int):=Int.natCast_nonneg _
    have hm0:(0:Int) ≤ (m:Int):=Int.natCast_nonneg _
    by_cases hlt:i < s.size
    · have hgi:=B_get s i hlt
      have hlti:(i:Int) < (s.size:Int):=by omega
      obtain ⟨x,hx⟩:∃ x,Lx.B s i=x:=⟨_,rfl⟩
      have hxr:=Lx.B_range s i
      rw [hx] at hgi hxr
      have hx0:=hxr.1
      have hx9:=hxr.2
      have HX:=mkA hx
      clear hx hxr
      by_cases hd1:x < 48
      · have hend:=HRR.out.1 (by rw [← HI.out.2.2.2.2];exact whMag_stop s m i hlt (by rw [HX.out];omega))
        subst hend
        go_wp2_with fail
        go_ret2
        exact ⟨rfl,rfl⟩
      · by_cases hd2:57 < x
        · have hend:=HRR.out.1 (by rw [← HI.out.2.2.2.2];exact whMag_stop s m i hlt (by rw [HX.out];omega))
          subst hend
          go_wp2_with fail
          go_ret2
          exact ⟨rfl,rfl⟩
        · obtain ⟨d,hd⟩:∃ d:Nat,x=((d + 48:Nat):Int):=⟨(x - 48).toNat,by omega⟩
          have hd9:d ≤ 9:=by omega
          have HD:=mkA hd
          have hsub:IntKind.u8.wrap (x - 48)=(d:Int):=by rw [wrap_u8 (by omega) (by omega)];omega
          have htd:=tdiv_law m d hm0 (by omega)
          obtain ⟨tq,htq⟩:∃ tq:Int,(9223372036854775808 - (d:Int)) / 10=tq:=⟨_,rfl⟩
          rw [htq] at htd
          have ht0:0 ≤ tq:=by omega
          have ht9:tq ≤ 922337203685477580:=by omega
          by_cases ho:9223372036854775808 < m * 10 + d
          · have hend:=HRR.out.1 (by rw [← HI.out.2.2.2.2];exact whMag_over s m i d hlt (by rw [HX.out];exact hd) hd9 ho)
            have hlt2:-(m:Int) < -tq:=by omega
            clear hd
            subst hend
            go_wp2_with fail
            go_ret2
            exact ⟨rfl,rfl⟩
          · have hlt2:¬ (-(m:Int) < -tq):=by omega
            have hmore:=whMag_more s m i d hlt (by rw [HX.out];exact hd) hd9 (by omega)
            have HM:=mkA hmore
            have hm10:(m:Int) * 10 + (d:Int) ≤ 9223372036854775808:=by omega
            clear hmore hd
            go_wp2_with fail
            go_roundg (s.size - (i + 1))
            case measure=>have:=HI.out;omega
            case rel=>exact ⟨m * 10 + d,i + 1,by go_num,by go_num,⟨by have:=HI.out.1;omega,by omega,rfl,by omega,by rw [← HM.out];exact HI.out.2.2.2.2⟩,rfl⟩
    · have hend:=HRR.out.2 m (by rw [← HI.out.2.2.2.2,List.drop_eq_nil_of_le (by rw [Array.length_toList];show s.size ≤ i;omega)];rfl)
      simp only [Bool.false_eq_true,if_false] at hend
      by_cases hmx:m=9223372036854775808
      · rw [if_pos hmx] at hend
        subst hend
        subst hmx
        go_wp2_with fail
        go_ret2
        exact ⟨rfl,rfl⟩
      · rw [if_neg hmx] at hend
        subst hend
        have hmn:(-(m:Int) == -9223372036854775808)=false:=beq_eq_false_iff_ne.mpr (by omega)
        have hmi:(m:Int) < 9223372036854775808:=by omega
        go_wp2_with fail
        go_ret2
        exact ⟨rfl,rfl⟩
set_option maxRecDepth 100000 in
theorem whole_none_calls (s:ByteArray) (w:World) (hs:s.size=0 ∨ s.size=1∧(Lx.B s 0=45 ∨ Lx.B s 0=43)):Calls Tryz.prog 108 #[.string s] w fun e w'=>e=.returned (.tuple #[.int .i64 0,.bool false])∧w'=w:=by
  rcases hs with hz | ⟨hz,hx⟩
  · have hge:s.toList.isEmpty=true:=by rw [emptyB s];exact decide_eq_true hz
    have h1n:((0:Int) == (s.size:Int))=true:=beq_iff_eq.mpr (by omega)
    clear hz
    go_enter Tryz.func108,Tryz.ntmps108
    go_wp2_with fail
    go_ret2
    exact ⟨rfl,rfl⟩
  · have h0:0 < s.size:=by omega
    have hg0:=B_get s 0 h0
    have hge:s.toList.isEmpty=false:=by rw [emptyB s];exact decide_eq_false (by omega)
    have h1n:((1:Int) == (s.size:Int))=true:=beq_iff_eq.mpr (by omega)
    have h0i:(0:Int) < (s.size:Int):=by omega
    rcases hx with hx | hx
    · have h45:(Lx.B s 0 == 45)=true:=beq_iff_eq.mpr hx
      clear hz hx
      go_enter Tryz.func108,Tryz.ntmps108
      go_wp2_with fail
      go_ret2
      exact ⟨rfl,rfl⟩
    · have h45:(Lx.B s 0 == 45)=false:=beq_eq_false_iff_ne.mpr (by omega)
      have h43:(Lx.B s 0 == 43)=true:=beq_iff_eq.mpr hx
      clear hz hx
      go_enter Tryz.func108,Tryz.ntmps108
      go_wp2_with fail
      go_ret2
      exact ⟨rfl,rfl⟩
theorem whole_calls (s:ByteArray) (w:World) (hs:s.size ≤ 1000000):Calls Tryz.prog 108 #[.string s] w fun e w'=>e=.returned (.tuple #[.int .i64 (Lx.whole s.data.toList).1,.bool (Lx.whole s.data.toList).2])∧w'=w:=by
  have hlen:s.data.toList.length=s.size:=by rw [Array.length_toList];rfl
  cases hl:s.data.toList with
  | nil =>
    rw [hl] at hlen
    exact whole_none_calls s w (.inl hlen.symm)
  | cons x r =>
    have hb0:=Lx.B_data s 0 (by rw [hl];simp)
    simp only [hl,List.getElem_cons_zero] at hb0
    rw [hl,List.length_cons] at hlen
    by_cases h45:x.toNat=45
    · rw [Lx.whole_minus x r h45]
      by_cases h1:s.size=1
      · have hr:r=[]:=List.eq_nil_of_length_eq_zero (by omega)
        subst hr
        exact whole_none_calls s w (.inr ⟨h1,.inl (by omega)⟩)
      · have h:=whole_minus_calls s w hs (by omega) (by omega)
        rw [hl] at h
        exact h
    · by_cases h43:x.toNat=43
      · rw [Lx.whole_plus x r h43]
        by_cases h1:s.size=1
        · have hr:r=[]:=List.eq_nil_of_length_eq_zero (by omega)
          subst hr
          exact whole_none_calls s w (.inr ⟨h1,.inr (by omega)⟩)
        · have h:=whole_plus_calls s w hs (by omega) (by omega)
          rw [hl] at h
          exact h
      · rw [Lx.whole_bare x r h45 h43]
        have h:=whole_bare_calls s w hs (by omega) (by omega) (by omega)
        rw [hl] at h
        exact h
set_option maxRecDepth 100000 in
set_option maxHeartbeats 8000000 in
theorem refval_calls (w0 w:World) (A:Option Addr) (n c:Nat) (dv:Value) (L:List Lx.Tok) (S:Lx.ES) (defs:List (ByteArray × ByteArray)) (b:ByteArray) (h:RC w0 w A n c dv L S) (hD:Dfs w0 dv defs) :
    Calls Tryz.prog 92 #[.pointer (some ⟨w0.heap.size,0,none⟩),.string b] w fun e w'=>e=.returned (.tuple #[.int .i64 (Lx.valOf defs b).1,.bool (Lx.valOf defs b).2])∧w'=w:=by
  obtain ⟨-,i0,-,-,hbk,hw⟩:=h
  obtain ⟨DA,DC,rfl,hc1,hc2,hlen,hsz,hA⟩:=hD
  obtain ⟨dn,hdn⟩:∃ dn,defs.length=dn:=⟨_,rfl⟩
  rw [hdn] at hbk hc1 hlen
  have hxl:=blk_lt hbk
  have y3:w.cell? ⟨w0.heap.size,3,none⟩=some (.slice DA dn DC):=by rw [blk_cell hbk];rfl
  have HN:=mkA hdn
  have HSZ:=mkA hsz
  have HA:=mkA hA
  have HW:=mkA hw
  obtain ⟨VV,hVV⟩:∃ VV,Lx.valOf defs b=VV:=⟨_,rfl⟩
  rw [hVV]
  have hv1:Lx.defFrom b.toList (defs.drop 0) 0=none → VV=(0,false):=fun e=>by
    rw [← hVV];unfold Lx.valOf;rw [List.drop_zero] at e;rw [e]
  have hv2:∀ j d,Lx.defFrom b.toList (defs.drop 0) 0=some j → defs[j]? = some d → VV=(Lx.worth d.2,true):=fun j d e e2=>by
    rw [← hVV];unfold Lx.valOf;rw [List.drop_zero] at e;rw [e];dsimp only;rw [e2]
  have HV1:=mkA hv1
  have HV2:=mkA hv2
  clear hbk hw hsz hA hdn hVV hv1 hv2
  go_enter Tryz.func92,Tryz.ntmps92
  go_wp2_with fail
  go_loopg [6] dn (fun kq v6 W => ∃ i:Nat,v6=.int .i64 i∧Aside0 (i ≤ dn∧kq=dn - i∧Lx.defFrom b.toList (defs.drop i) i=Lx.defFrom b.toList (defs.drop 0) 0)∧W=w)
  case atStart=>exact ⟨0,rfl,⟨Nat.zero_le _,rfl,rfl⟩,rfl⟩
  case round =>
    obtain ⟨i,rfl,HI,rfl⟩:=hrel
    have hi:=HI.out.1
    have hi0:(0:Int) ≤ (i:Int):=Int.natCast_nonneg _
    by_cases hlt:i < dn
    · obtain ⟨d,hd⟩:∃ d,defs[i]? = some d:=⟨_,List.getElem?_eq_getElem (by have:=HN.out;omega)⟩
      obtain ⟨g,o,rfl,hgl,hat⟩:=HA.out.resolve_left (fun e=>by rw [e] at hd;simp at hd)
      have a0:=(HW.out.cell hgl).trans (hat i d hd).1
      have a1:=(HW.out.cell hgl).trans (hat i d hd).2
      have hgw:g < wr.heap.size:=Nat.lt_of_lt_of_le hgl HW.out.size
      have hin:(i:Int) < (dn:Int):=by omega
      have hst:=Lx.defFrom_at b.toList defs i d i hd
      obtain ⟨p,hp⟩:∃ p,(d.1.toList == b.toList)=p:=⟨_,rfl⟩
      rw [hp] at hst
      obtain ⟨d1,d2⟩:=d
      have HD:=mkA hd
      have HST:=mkA hst
      dsimp only at a0 a1 hp
      cases p
      · clear hd hst hat
        go_wp2_with fail
        go_roundg (dn - (i + 1))
        case measure=>have:=HI.out;omega
        case rel=>exact ⟨i + 1,by go_num,⟨by omega,rfl,by rw [← HI.out.2.2,HST.out,if_neg Bool.false_ne_true]⟩,rfl⟩
      · have hwh:=whole_calls d2 wr (HSZ.out _ (List.mem_of_getElem? hd))
        have hwo:=Lx.whole_worth d2
        have hend:=HV2.out i (d1,d2) (by rw [← HI.out.2.2,HST.out,if_pos rfl]) hd
        dsimp only at hend
        rw [← hwo] at hend
        obtain ⟨wv,hwv⟩:∃ wv,(Lx.whole d2.data.toList).1=wv:=⟨_,rfl⟩
        obtain ⟨ok,hok⟩:∃ ok,(Lx.whole d2.data.toList).2=ok:=⟨_,rfl⟩
        rw [hwv,hok] at hwh hend
        have HWH:=mkA hwh
        clear hwh hwo hwv hok hd hst hat
        cases ok
        · rw [if_neg Bool.false_ne_true] at hend
          subst hend
          go_wp2_with (first | (go_at_call 108;(refine HWH.out.mono ?_);rintro e w' ⟨rfl,rfl⟩))
          go_ret2
          exact ⟨rfl,rfl⟩
        · rw [if_pos rfl] at hend
          subst hend
          go_wp2_with (first | (go_at_call 108;(refine HWH.out.mono ?_);rintro e w' ⟨rfl,rfl⟩))
          go_ret2
          exact ⟨rfl,rfl⟩
    · obtain rfl:i=dn:=by omega
      have hend:=HV1.out (by rw [← HI.out.2.2,List.drop_eq_nil_of_le (by have:=HN.out;omega)];rfl)
      subst hend
      go_wp2_with fail
      go_ret2
      exact ⟨rfl,rfl⟩
theorem iter_kept (w3 w5:World) (s:ByteArray) (p:Nat) (hb:Below (w3.iter s p).heap.size (w3.iter s p) w5):w5.heap[w3.heap.size]? = some (.stringIter s p):=by
  have h1:=World.iter_heap w3 s p
  have hg:=grown_below (World.grownBy.refl (w3.iter s p) none) hb
  exact (hg.block w3.heap.size (Array.getElem?_eq_some_iff.1 h1).1 (by simp)).trans h1
set_option maxRecDepth 100000 in
  theorem cut_one (w:World) (hT:Lib.Utf8Tabs 6 7 w):Calls Tryz.prog 166 #[.string ⟨#[49]⟩,.string ⟨#[117,108,85,76]⟩] w fun e w'=>e=.returned (.string ⟨#[49]⟩)∧Below w.heap.size w w':=by
    have h:=Tryz.utf8_DecodeLastRuneInString ⟨#[49]⟩ w (by decide) hT
    rw [show Lib.decodeLastL (ByteArray.mk #[49]).data.toList=(49,1) from by decide] at h
    have H:=mkA h
    clear hT h
    have n0:∀ (W:World) (ty:TypeId),(Instr.next (.pointer (some ⟨W.heap.size,0,none⟩)) true ty).run Tryz.prog (W.iter ⟨#[117,108,85,76]⟩ 0)=.ok (.tuple #[.bool true,.int .i64 0,.int .i32 117]) (W.iter ⟨#[117,108,85,76]⟩ 1):=fun W ty=>run_next_ascii W ⟨#[117,108,85,76]⟩ 0 ty (by decide) (by decide)
    have n1:∀ (W:World) (ty:TypeId),(Instr.next (.pointer (some ⟨W.heap.size,0,none⟩)) true ty).run Tryz.prog (W.iter ⟨#[117,108,85,76]⟩ 1)=.ok (.tuple #[.bool true,.int .i64 1,.int .i32 108]) (W.iter ⟨#[117,108,85,76]⟩ 2):=fun W ty=>run_next_ascii W ⟨#[117,108,85,76]⟩ 1 ty (by decide) (by decide)
    have n2:∀ (W:World) (ty:TypeId),(Instr.next (.pointer (some ⟨W.heap.size,0,none⟩)) true ty).run Tryz.prog (W.iter ⟨#[117,108,85,76]⟩ 2)=.ok (.tuple #[.bool true,.int .i64 2,.int .i32 85]) (W.iter ⟨#[117,108,85,76]⟩ 3):=fun W ty=>run_next_ascii W ⟨#[117,108,85,76]⟩ 2 ty (by decide) (by decide)
    have n3:∀ (W:World) (ty:TypeId),(Instr.next (.pointer (some ⟨W.heap.size,0,none⟩)) true ty).run Tryz.prog (W.iter ⟨#[117,108,85,76]⟩ 3)=.ok (.tuple #[.bool true,.int .i64 3,.int .i32 76]) (W.iter ⟨#[117,108,85,76]⟩ 4):=fun W ty=>run_next_ascii W ⟨#[117,108,85,76]⟩ 3 ty (by decide) (by decide)
    have n4:=fun (W:World) (ty:TypeId) => @run_next_end Tryz.prog W ⟨#[117,108,85,76]⟩ 4 ty (by decide)
    go_enter Tryz.func166,Tryz.ntmps166
    go_wp2_with fail
    refine wp_loop_rounds 1 ?_
    rw [rounds_succ]
    go_wp2_with (go_at_call 182;(refine H.out.mono ?_);rintro e w1 ⟨rfl,hb⟩;have HB:=mkA hb;clear hb)
    refine wp_loop_rounds 5 ?_
    rw [rounds_succ]
    go_wp2_with fail
    rw [rounds_succ]
    go_wp2_with fail
    rw [rounds_succ]
    go_wp2_with fail
    rw [rounds_succ]
    go_wp2_with fail
    rw [rounds_succ]
    go_wp2_with fail
    go_ret
    exact ⟨rfl,show Below w.heap.size w (w1.alloc _) from HB.out.alloc HB.out.size _⟩
set_option maxRecDepth 100000 in
    theorem cut_two (w:World) (hT:Lib.Utf8Tabs 6 7 w):Calls Tryz.prog 166 #[.string ⟨#[50]⟩,.string ⟨#[117,108,85,76]⟩] w fun e w'=>e=.returned (.string ⟨#[50]⟩)∧Below w.heap.size w w':=by
      have h:=Tryz.utf8_DecodeLastRuneInString ⟨#[50]⟩ w (by decide) hT
      rw [show Lib.decodeLastL (ByteArray.mk #[50]).data.toList=(50,1) from by decide] at h
      have H:=mkA h
      clear hT h
      have n0:∀ (W:World) (ty:TypeId),(Instr.next (.pointer (some ⟨W.heap.size,0,none⟩)) true ty).run Tryz.prog (W.iter ⟨#[117,108,85,76]⟩ 0)=.ok (.tuple #[.bool true,.int .i64 0,.int .i32 117]) (W.iter ⟨#[117,108,85,76]⟩ 1):=fun W ty=>run_next_ascii W ⟨#[117,108,85,76]⟩ 0 ty (by decide) (by decide)
      have n1:∀ (W:World) (ty:TypeId),(Instr.next (.pointer (some ⟨W.heap.size,0,none⟩)) true ty).run Tryz.prog (W.iter ⟨#[117,108,85,76]⟩ 1)=.ok (.tuple #[.bool true,.int .i64 1,.int .i32 108]) (W.iter ⟨#[117,108,85,76]⟩ 2):=fun W ty=>run_next_ascii W ⟨#[117,108,85,76]⟩ 1 ty (by decide) (by decide)
      have n2:∀ (W:World) (ty:TypeId),(Instr.next (.pointer (some ⟨W.heap.size,0,none⟩)) true ty).run Tryz.prog (W.iter ⟨#[117,108,85,76]⟩ 2)=.ok (.tuple #[.bool true,.int .i64 2,.int .i32 85]) (W.iter ⟨#[117,108,85,76]⟩ 3):=fun W ty=>run_next_ascii W ⟨#[117,108,85,76]⟩ 2 ty (by decide) (by decide)
      have n3:∀ (W:World) (ty:TypeId),(Instr.next (.pointer (some ⟨W.heap.size,0,none⟩)) true ty).run Tryz.prog (W.iter ⟨#[117,108,85,76]⟩ 3)=.ok (.tuple #[.bool true,.int .i64 3,.int .i32 76]) (W.iter ⟨#[117,108,85,76]⟩ 4):=fun W ty=>run_next_ascii W ⟨#[117,108,85,76]⟩ 3 ty (by decide) (by decide)
      have n4:=fun (W:World) (ty:TypeId) => @run_next_end Tryz.prog W ⟨#[117,108,85,76]⟩ 4 ty (by decide)
      go_enter Tryz.func166,Tryz.ntmps166
      go_wp2_with fail
      refine wp_loop_rounds 1 ?_
      rw [rounds_succ]
      go_wp2_with (go_at_call 182;(refine H.out.mono ?_);rintro e w1 ⟨rfl,hb⟩;have HB:=mkA hb;clear hb)
      refine wp_loop_rounds 5 ?_
      rw [rounds_succ]
      go_wp2_with fail
      rw [rounds_succ]
      go_wp2_with fail
      rw [rounds_succ]
      go_wp2_with fail
      rw [rounds_succ]
      go_wp2_with fail
      rw [rounds_succ]
      go_wp2_with fail
      go_ret
      exact ⟨rfl,show Below w.heap.size w (w1.alloc _) from HB.out.alloc HB.out.size _⟩
set_option maxRecDepth 100000 in
      theorem rune_one (w:World):Calls Tryz.prog 168 #[.string ⟨#[48,49,50,51,52,53,54,55,56,57]⟩,.int .i32 49] w fun e w'=>e=.returned (.int .i64 1)∧Below w.heap.size w w':=by
        have n0:∀ (W:World) (ty:TypeId),(Instr.next (.pointer (some ⟨W.heap.size,0,none⟩)) true ty).run Tryz.prog (W.iter ⟨#[48,49,50,51,52,53,54,55,56,57]⟩ 0)=.ok (.tuple #[.bool true,.int .i64 0,.int .i32 48]) (W.iter ⟨#[48,49,50,51,52,53,54,55,56,57]⟩ 1):=fun W ty=>run_next_ascii W ⟨#[48,49,50,51,52,53,54,55,56,57]⟩ 0 ty (by decide) (by decide)
        have n1:∀ (W:World) (ty:TypeId),(Instr.next (.pointer (some ⟨W.heap.size,0,none⟩)) true ty).run Tryz.prog (W.iter ⟨#[48,49,50,51,52,53,54,55,56,57]⟩ 1)=.ok (.tuple #[.bool true,.int .i64 1,.int .i32 49]) (W.iter ⟨#[48,49,50,51,52,53,54,55,56,57]⟩ 2):=fun W ty=>run_next_ascii W ⟨#[48,49,50,51,52,53,54,55,56,57]⟩ 1 ty (by decide) (by decide)
        have n2:∀ (W:World) (ty:TypeId),(Instr.next (.pointer (some ⟨W.heap.size,0,none⟩)) true ty).run Tryz.prog (W.iter ⟨#[48,49,50,51,52,53,54,55,56,57]⟩ 2)=.ok (.tuple #[.bool true,.int .i64 2,.int .i32 50]) (W.iter ⟨#[48,49,50,51,52,53,54,55,56,57]⟩ 3):=fun W ty=>run_next_ascii W ⟨#[48,49,50,51,52,53,54,55,56,57]⟩ 2 ty (by decide) (by decide)
        go_enter Tryz.func168,Tryz.ntmps168
        go_wp2_with fail
        refine wp_loop_rounds 3 ?_
        rw [rounds_succ]
        go_wp2_with fail
        rw [rounds_succ]
        go_wp2_with fail
        go_ret
        exact ⟨rfl,show Below w.heap.size w (w.alloc _) from (Below.refl _ _).alloc (Nat.le_refl _) _⟩
set_option maxRecDepth 100000 in
        theorem rune_two (w:World):Calls Tryz.prog 168 #[.string ⟨#[48,49,50,51,52,53,54,55,56,57]⟩,.int .i32 50] w fun e w'=>e=.returned (.int .i64 2)∧Below w.heap.size w w':=by
          have n0:∀ (W:World) (ty:TypeId),(Instr.next (.pointer (some ⟨W.heap.size,0,none⟩)) true ty).run Tryz.prog (W.iter ⟨#[48,49,50,51,52,53,54,55,56,57]⟩ 0)=.ok (.tuple #[.bool true,.int .i64 0,.int .i32 48]) (W.iter ⟨#[48,49,50,51,52,53,54,55,56,57]⟩ 1):=fun W ty=>run_next_ascii W ⟨#[48,49,50,51,52,53,54,55,56,57]⟩ 0 ty (by decide) (by decide)
          have n1:∀ (W:World) (ty:TypeId),(Instr.next (.pointer (some ⟨W.heap.size,0,none⟩)) true ty).run Tryz.prog (W.iter ⟨#[48,49,50,51,52,53,54,55,56,57]⟩ 1)=.ok (.tuple #[.bool true,.int .i64 1,.int .i32 49]) (W.iter ⟨#[48,49,50,51,52,53,54,55,56,57]⟩ 2):=fun W ty=>run_next_ascii W ⟨#[48,49,50,51,52,53,54,55,56,57]⟩ 1 ty (by decide) (by decide)
          have n2:∀ (W:World) (ty:TypeId),(Instr.next (.pointer (some ⟨W.heap.size,0,none⟩)) true ty).run Tryz.prog (W.iter ⟨#[48,49,50,51,52,53,54,55,56,57]⟩ 2)=.ok (.tuple #[.bool true,.int .i64 2,.int .i32 50]) (W.iter ⟨#[48,49,50,51,52,53,54,55,56,57]⟩ 3):=fun W ty=>run_next_ascii W ⟨#[48,49,50,51,52,53,54,55,56,57]⟩ 2 ty (by decide) (by decide)
          go_enter Tryz.func168,Tryz.ntmps168
          go_wp2_with fail
          refine wp_loop_rounds 3 ?_
          rw [rounds_succ]
          go_wp2_with fail
          rw [rounds_succ]
          go_wp2_with fail
          rw [rounds_succ]
          go_wp2_with fail
          go_ret
          exact ⟨rfl,show Below w.heap.size w (w.alloc _) from (Below.refl _ _).alloc (Nat.le_refl _) _⟩
set_option maxRecDepth 100000 in
          theorem number_one (w:World) (hT:Lib.Utf8Tabs 6 7 w) (hV:Lib.CaseVar 5 Lib.caseA w):Calls Tryz.prog 138 #[.string ⟨#[49]⟩] w fun e w'=>e=.returned (.tuple #[.int .i64 1,.bool true])∧Below w.heap.size w w':=by
            have HC:=mkA (cut_one w hT)
            have HT:=mkA hT
            have HV:=mkA hV
            clear hT hV
            have n0:∀ (W:World) (ty:TypeId),(Instr.next (.pointer (some ⟨W.heap.size,0,none⟩)) true ty).run Tryz.prog (W.iter ⟨#[49]⟩ 0)=.ok (.tuple #[.bool true,.int .i64 0,.int .i32 49]) (W.iter ⟨#[49]⟩ 1):=fun W ty=>run_next_ascii W ⟨#[49]⟩ 0 ty (by decide) (by decide)
            have n1:=fun (W:World) (ty:TypeId) => @run_next_end Tryz.prog W ⟨#[49]⟩ 1 ty (by decide)
            have htl:Lib.toLowerD (ByteArray.mk #[49]).data.toList=[49]:=by decide
            have HTL:=mkA htl
            clear htl
            go_enter Tryz.func138,Tryz.ntmps138
            go_wp2_with (first | (go_at_call 166;(refine HC.out.mono ?_);rintro e w1 ⟨rfl,hb⟩;have HB:=mkA hb;clear hb) | (go_at_call 40;(refine (Tryz.strings_HasPrefix _ _ _).mono ?_);rintro e w' ⟨rfl,rfl⟩) | (go_at_call 167;(refine (Tryz.strings_ToLower_any ⟨#[49]⟩ _ (by decide) (Lib.CaseVar_below HV.out HB.out) (Utf8Tabs_below HT.out HB.out)).mono ?_);rintro e w3 ⟨rfl,hb⟩;rw [HTL.out];have HB3:=mkA (HB.out.trans (hb.mono HB.out.size));clear hb))
            refine wp_loop_rounds 2 ?_
            rw [rounds_succ]
            go_wp2_with (go_at_call 168;(refine (rune_one _).mono ?_);rintro e w5 ⟨rfl,hb⟩;have hit:=iter_kept _ _ _ _ hb;have m1:=fun (ty:TypeId) => @Lib.run_next_end_at Tryz.prog w5 w3.heap.size ⟨#[49]⟩ 1 ty hit (by decide);have HB5:=mkA hb;clear hb hit)
            rw [rounds_succ]
            go_wp2_with fail
            go_ret2
            refine ⟨rfl,?_⟩
            have h1:Below w.heap.size w (w3.iter ⟨#[49]⟩ 1):=show Below w.heap.size w (w3.alloc _) from HB3.out.alloc HB3.out.size _
            exact h1.trans (HB5.out.mono h1.size)
set_option maxRecDepth 100000 in
            theorem number_two (w:World) (hT:Lib.Utf8Tabs 6 7 w) (hV:Lib.CaseVar 5 Lib.caseA w):Calls Tryz.prog 138 #[.string ⟨#[50]⟩] w fun e w'=>e=.returned (.tuple #[.int .i64 2,.bool true])∧Below w.heap.size w w':=by
              have HC:=mkA (cut_two w hT)
              have HT:=mkA hT
              have HV:=mkA hV
              clear hT hV
              have n0:∀ (W:World) (ty:TypeId),(Instr.next (.pointer (some ⟨W.heap.size,0,none⟩)) true ty).run Tryz.prog (W.iter ⟨#[50]⟩ 0)=.ok (.tuple #[.bool true,.int .i64 0,.int .i32 50]) (W.iter ⟨#[50]⟩ 1):=fun W ty=>run_next_ascii W ⟨#[50]⟩ 0 ty (by decide) (by decide)
              have n1:=fun (W:World) (ty:TypeId) => @run_next_end Tryz.prog W ⟨#[50]⟩ 1 ty (by decide)
              have htl:Lib.toLowerD (ByteArray.mk #[50]).data.toList=[50]:=by decide
              have HTL:=mkA htl
              clear htl
              go_enter Tryz.func138,Tryz.ntmps138
              go_wp2_with (first | (go_at_call 166;(refine HC.out.mono ?_);rintro e w1 ⟨rfl,hb⟩;have HB:=mkA hb;clear hb) | (go_at_call 40;(refine (Tryz.strings_HasPrefix _ _ _).mono ?_);rintro e w' ⟨rfl,rfl⟩) | (go_at_call 167;(refine (Tryz.strings_ToLower_any ⟨#[50]⟩ _ (by decide) (Lib.CaseVar_below HV.out HB.out) (Utf8Tabs_below HT.out HB.out)).mono ?_);rintro e w3 ⟨rfl,hb⟩;rw [HTL.out];have HB3:=mkA (HB.out.trans (hb.mono HB.out.size));clear hb))
              refine wp_loop_rounds 2 ?_
              rw [rounds_succ]
              go_wp2_with (go_at_call 168;(refine (rune_two _).mono ?_);rintro e w5 ⟨rfl,hb⟩;have hit:=iter_kept _ _ _ _ hb;have m1:=fun (ty:TypeId) => @Lib.run_next_end_at Tryz.prog w5 w3.heap.size ⟨#[50]⟩ 1 ty hit (by decide);have HB5:=mkA hb;clear hb hit)
              rw [rounds_succ]
              go_wp2_with fail
              go_ret2
              refine ⟨rfl,?_⟩
              have h1:Below w.heap.size w (w3.iter ⟨#[50]⟩ 1):=show Below w.heap.size w (w3.alloc _) from HB3.out.alloc HB3.out.size _
              exact h1.trans (HB5.out.mono h1.size)
namespace Lx
def Asc (s:ByteArray):Prop:=∀ x ∈ s.data.toList,x.toNat < 128
theorem cutR_snoc_ul (r:List UInt8) (x:UInt8) (h:isUL x=true):cutR (r ++ [x])=cutR r:=by
  unfold cutR
  rw [List.reverse_append,List.reverse_singleton,List.singleton_append,List.dropWhile_cons,h,if_pos rfl]
theorem cutR_snoc_no (r:List UInt8) (x:UInt8) (h:isUL x=false):cutR (r ++ [x])=r ++ [x]:=by
  unfold cutR
  rw [List.reverse_append,List.reverse_singleton,List.singleton_append,List.dropWhile_cons,h,if_neg Bool.false_ne_true]
  simp
theorem list_size (s:ByteArray):s.data.toList.length=s.size:=by rw [Array.length_toList];rfl
theorem last_at (t:ByteArray) (q:Nat) (h:t.size=q + 1):∃ x,t.data.toList=(t.extract 0 q).data.toList ++ [x]∧(x.toNat:Int)=B t q:=by
  have hl:=list_size t
  have hq:q < t.data.toList.length:=by omega
  refine ⟨t.data.toList[q],?_,(B_data t q hq).symm⟩
  rw [ByteArray.data_extract,Array.toList_extract,List.extract_eq_take_drop,List.drop_zero,Nat.sub_zero,← List.take_succ_eq_append_getElem hq,List.take_of_length_le (by omega)]
theorem asc_extract {t:ByteArray} (h:Asc t) (q:Nat):Asc (t.extract 0 q):=by
  intro x hx
  rw [ByteArray.data_extract,Array.toList_extract,List.extract_eq_take_drop,List.drop_zero] at hx
  exact h x (List.mem_of_mem_take hx)
end Lx
set_option maxRecDepth 100000 in
set_option maxHeartbeats 8000000 in
theorem cut_calls (s:ByteArray) (w:World) (ha:Lx.Asc s) (hs:s.size ≤ 100000) (hT:Lib.Utf8Tabs 6 7 w):Calls Tryz.prog 166 #[.string s,.string ⟨#[117,108,85,76]⟩] w fun e w' => ∃ t,e=.returned (.string t)∧(t.data.toList=Lx.cutR s.data.toList∧t.size ≤ s.size∧Lx.Asc t)∧Below w.heap.size w w':=by
  have n0:∀ (W:World) (ty:TypeId),(Instr.next (.pointer (some ⟨W.heap.size,0,none⟩)) true ty).run Tryz.prog (W.iter ⟨#[117,108,85,76]⟩ 0)=.ok (.tuple #[.bool true,.int .i64 0,.int .i32 117]) (W.iter ⟨#[117,108,85,76]⟩ 1):=fun W ty=>run_next_ascii W ⟨#[117,108,85,76]⟩ 0 ty (by decide) (by decide)
  have n1:∀ (W:World) (ty:TypeId),(Instr.next (.pointer (some ⟨W.heap.size,0,none⟩)) true ty).run Tryz.prog (W.iter ⟨#[117,108,85,76]⟩ 1)=.ok (.tuple #[.bool true,.int .i64 1,.int .i32 108]) (W.iter ⟨#[117,108,85,76]⟩ 2):=fun W ty=>run_next_ascii W ⟨#[117,108,85,76]⟩ 1 ty (by decide) (by decide)
  have n2:∀ (W:World) (ty:TypeId),(Instr.next (.pointer (some ⟨W.heap.size,0,none⟩)) true ty).run Tryz.prog (W.iter ⟨#[117,108,85,76]⟩ 2)=.ok (.tuple #[.bool true,.int .i64 2,.int .i32 85]) (W.iter ⟨#[117,108,85,76]⟩ 3):=fun W ty=>run_next_ascii W ⟨#[117,108,85,76]⟩ 2 ty (by decide) (by decide)
  have n3:∀ (W:World) (ty:TypeId),(Instr.next (.pointer (some ⟨W.heap.size,0,none⟩)) true ty).run Tryz.prog (W.iter ⟨#[117,108,85,76]⟩ 3)=.ok (.tuple #[.bool true,.int .i64 3,.int .i32 76]) (W.iter ⟨#[117,108,85,76]⟩ 4):=fun W ty=>run_next_ascii W ⟨#[117,108,85,76]⟩ 3 ty (by decide) (by decide)
  have n4:=fun (W:World) (ty:TypeId) => @run_next_end Tryz.prog W ⟨#[117,108,85,76]⟩ 4 ty (by decide)
  have HA:=mkA ha
  have HT:=mkA hT
  clear ha hT
  go_enter Tryz.func166,Tryz.ntmps166
  go_wp2_with fail
  go_loopg [0] s.size (fun kq v0 W => ∃ t:ByteArray,v0=.string t∧Aside0 (kq=t.size∧t.size ≤ s.size∧Lx.cutR s.data.toList=Lx.cutR t.data.toList∧Lx.Asc t)∧Aside0 (Below w.heap.size w W))
  case atStart=>exact ⟨s,rfl,⟨rfl,Nat.le_refl _,rfl,HA.out⟩,⟨Below.refl _ _⟩⟩
  case round =>
    obtain ⟨t,rfl,HI,HW⟩:=hrel
    by_cases hz:t.size=0
    · have hzi:decide (0 < t.size)=false:=decide_eq_false (by omega)
      have hzn:¬ 0 < t.size:=by omega
      have HZ:=mkA hz
      clear hz
      go_wp2_with fail
      go_ret
      refine ⟨t,rfl,⟨?_,HI.out.2.1,HI.out.2.2.2⟩,HW.out⟩
      have e:t.data.toList=[]:=List.eq_nil_of_length_eq_zero (by rw [Lx.list_size];exact HZ.out)
      rw [HI.out.2.2.1,e]
      rfl
    · obtain ⟨q,hq⟩:∃ q,t.size=q + 1:=⟨t.size - 1,by omega⟩
      have hzi:(0:Int) < (t.size:Int):=by omega
      have hzn:0 < t.size:=by omega
      obtain ⟨x,hx,-⟩:=Lx.last_at t q hq
      have hxa:x.toNat < 128:=HI.out.2.2.2 x (by rw [hx];simp)
      have hdl:=Lib.decodeLastL_ascii (t.extract 0 q).data.toList x hxa
      rw [← hx] at hdl
      have hts:t.size ≤ 100000:=by have:=HI.out.2.1;omega
      have h:=Tryz.utf8_DecodeLastRuneInString t wr (by omega) (Utf8Tabs_below HT.out HW.out)
      rw [hdl] at h
      have hcq:Lx.cutR t.data.toList=Lx.cutR ((t.extract 0 q).data.toList ++ [x]):=by rw [← hx]
      have hul0:Lx.isUL x=((x.toNat:Int) == 117 || (x.toNat:Int) == 108 || (x.toNat:Int) == 85 || (x.toNat:Int) == 76):=(Lx.ulI_ul x).symm
      obtain ⟨y,hy⟩:∃ y:Int,(x.toNat:Int)=y:=⟨_,rfl⟩
      rw [hy] at hul0
      have h:Calls Tryz.prog 182 #[.string t] wr fun e w'=>e=.returned (.tuple #[.int .i32 y,.int .i64 1])∧Below wr.heap.size wr w':=by rw [← hy];exact h
      have H:=mkA h
      have HL:=mkA hx
      have hqi:IntKind.i64.wrap ((t.size:Int) - 1)=(q:Int):=by rw [hq];simp [IntKind.wrap,IntKind.bits,IntKind.signed];omega
      have hq0:(0:Int) ≤ (q:Int):=Int.natCast_nonneg _
      have hqt:q ≤ t.size:=by omega
      have HQ:=mkA hq
      clear h hdl hx hcq hy hq hz hxa
      cases p1:(y == 117)
      · cases p2:(y == 108)
        · cases p3:(y == 85)
          · cases p4:(y == 76)
            · rw [p1,p2,p3,p4] at hul0
              have hul:Lx.isUL x=false:=hul0
              have HC:=mkA (Lx.cutR_snoc_no (t.extract 0 q).data.toList x hul)
              clear hul hul0
              go_wp2_with (go_at_call 182;(refine H.out.mono ?_);rintro e w1 ⟨rfl,hb⟩;have HB:=mkA (HW.out.trans (hb.mono HW.out.size));clear hb)
              refine wp_loop_rounds 5 ?_
              rw [rounds_succ]
              go_wp2_with fail
              rw [rounds_succ]
              go_wp2_with fail
              rw [rounds_succ]
              go_wp2_with fail
              rw [rounds_succ]
              go_wp2_with fail
              rw [rounds_succ]
              go_wp2_with fail
              go_ret
              refine ⟨t,rfl,⟨?_,HI.out.2.1,HI.out.2.2.2⟩,show Below w.heap.size w (w1.alloc _) from HB.out.alloc HB.out.size _⟩
              rw [HI.out.2.2.1]
              have e:=HC.out
              rw [← HL.out] at e
              exact e.symm
            · rw [p1,p2,p3,p4] at hul0
              have hul:Lx.isUL x=true:=hul0
              clear hul0
              have HC:=mkA (Lx.cutR_snoc_ul (t.extract 0 q).data.toList x hul)
              clear hul
              go_wp2_with (go_at_call 182;(refine H.out.mono ?_);rintro e w1 ⟨rfl,hb⟩;have HB:=mkA (HW.out.trans (hb.mono HW.out.size));clear hb)
              refine wp_loop_rounds 5 ?_
              rw [rounds_succ]
              go_wp2_with fail
              rw [rounds_succ]
              go_wp2_with fail
              rw [rounds_succ]
              go_wp2_with fail
              rw [rounds_succ]
              go_wp2_with fail
              rw [rounds_succ]
              go_wp2_with fail
              go_roundg q
              case measure=>have:=HI.out;have:=HQ.out;omega
              case rel =>
                refine ⟨t.extract 0 q,rfl,⟨by rw [ByteArray.size_extract];omega,by rw [ByteArray.size_extract];have:=HI.out;omega,?_,Lx.asc_extract HI.out.2.2.2 q⟩,⟨show Below w.heap.size w (w1.alloc _) from HB.out.alloc HB.out.size _⟩⟩
                rw [← HC.out,← HL.out]
                exact HI.out.2.2.1
          · rw [p1,p2,p3] at hul0
            have hul:Lx.isUL x=true:=hul0
            clear hul0
            have HC:=mkA (Lx.cutR_snoc_ul (t.extract 0 q).data.toList x hul)
            clear hul
            go_wp2_with (go_at_call 182;(refine H.out.mono ?_);rintro e w1 ⟨rfl,hb⟩;have HB:=mkA (HW.out.trans (hb.mono HW.out.size));clear hb)
            refine wp_loop_rounds 5 ?_
            rw [rounds_succ]
            go_wp2_with fail
            rw [rounds_succ]
            go_wp2_with fail
            rw [rounds_succ]
            go_wp2_with fail
            rw [rounds_succ]
            go_wp2_with fail
            rw [rounds_succ]
            go_wp2_with fail
            go_roundg q
            case measure=>have:=HI.out;have:=HQ.out;omega
            case rel =>
              refine ⟨t.extract 0 q,rfl,⟨by rw [ByteArray.size_extract];omega,by rw [ByteArray.size_extract];have:=HI.out;omega,?_,Lx.asc_extract HI.out.2.2.2 q⟩,⟨show Below w.heap.size w (w1.alloc _) from HB.out.alloc HB.out.size _⟩⟩
              rw [← HC.out,← HL.out]
              exact HI.out.2.2.1
        · rw [p1,p2] at hul0
          have hul:Lx.isUL x=true:=hul0
          clear hul0
          have HC:=mkA (Lx.cutR_snoc_ul (t.extract 0 q).data.toList x hul)
          clear hul
          go_wp2_with (go_at_call 182;(refine H.out.mono ?_);rintro e w1 ⟨rfl,hb⟩;have HB:=mkA (HW.out.trans (hb.mono HW.out.size));clear hb)
          refine wp_loop_rounds 5 ?_
          rw [rounds_succ]
          go_wp2_with fail
          rw [rounds_succ]
          go_wp2_with fail
          rw [rounds_succ]
          go_wp2_with fail
          rw [rounds_succ]
          go_wp2_with fail
          rw [rounds_succ]
          go_wp2_with fail
          go_roundg q
          case measure=>have:=HI.out;have:=HQ.out;omega
          case rel =>
            refine ⟨t.extract 0 q,rfl,⟨by rw [ByteArray.size_extract];omega,by rw [ByteArray.size_extract];have:=HI.out;omega,?_,Lx.asc_extract HI.out.2.2.2 q⟩,⟨show Below w.heap.size w (w1.alloc _) from HB.out.alloc HB.out.size _⟩⟩
            rw [← HC.out,← HL.out]
            exact HI.out.2.2.1
      · rw [p1] at hul0
        have hul:Lx.isUL x=true:=hul0
        clear hul0
        have HC:=mkA (Lx.cutR_snoc_ul (t.extract 0 q).data.toList x hul)
        clear hul
        go_wp2_with (go_at_call 182;(refine H.out.mono ?_);rintro e w1 ⟨rfl,hb⟩;have HB:=mkA (HW.out.trans (hb.mono HW.out.size));clear hb)
        refine wp_loop_rounds 5 ?_
        rw [rounds_succ]
        go_wp2_with fail
        rw [rounds_succ]
        go_wp2_with fail
        rw [rounds_succ]
        go_wp2_with fail
        rw [rounds_succ]
        go_wp2_with fail
        rw [rounds_succ]
        go_wp2_with fail
        go_roundg q
        case measure=>have:=HI.out;have:=HQ.out;omega
        case rel =>
          refine ⟨t.extract 0 q,rfl,⟨by rw [ByteArray.size_extract];omega,by rw [ByteArray.size_extract];have:=HI.out;omega,?_,Lx.asc_extract HI.out.2.2.2 q⟩,⟨show Below w.heap.size w (w1.alloc _) from HB.out.alloc HB.out.size _⟩⟩
          rw [← HC.out,← HL.out]
          exact HI.out.2.2.1
set_option maxRecDepth 100000 in
set_option maxHeartbeats 8000000 in
theorem rune_calls (ds:ByteArray) (c:Int) (w:World) (ha:Lx.Asc ds) (hs:ds.size ≤ 100):Calls Tryz.prog 168 #[.string ds,.int .i32 c] w fun e w' => ∃ v:Int,e=.returned (.int .i64 v)∧((∃ k:Nat,k < ds.size∧Lx.B ds k=c∧v=k) ∨ ((∀ k,k < ds.size → Lx.B ds k ≠ c)∧v = -1))∧Below w.heap.size w w':=by
  have HA:=mkA ha
  clear ha
  go_enter Tryz.func168,Tryz.ntmps168
  go_wp2_with fail
  go_loopg [5] ds.size (fun kq v5 W => ∃ i:Nat,Aside0 (i ≤ ds.size∧kq=ds.size - i∧∀ k,k < i → Lx.B ds k ≠ c)∧W=w.iter ds i)
  case atStart=>exact ⟨0,⟨Nat.zero_le _,rfl,fun k h=>absurd h (Nat.not_lt_zero k)⟩,rfl⟩
  case round =>
    obtain ⟨i,HI,rfl⟩:=hrel
    have hi:=HI.out.1
    have hbi:∀ p,Below w.heap.size w (w.iter ds p):=fun p=>show Below w.heap.size w (w.alloc _) from (Below.refl _ _).alloc (Nat.le_refl _) _
    have HBI:=mkA hbi
    clear hbi
    by_cases hlt:i < ds.size
    · have hl:i < ds.data.toList.length:=by rw [Lx.list_size];exact hlt
      have hasc:(ds[i]'hlt).toNat < 128:=HA.out (ds[i]'hlt) (by
        have:ds.data.toList[i]=ds[i]'hlt:=rfl
        rw [← this];exact List.getElem_mem hl)
      have n0:=fun (ty:TypeId) => @run_next_ascii Tryz.prog w ds i ty hlt hasc
      have hg:=B_get ds i hlt
      obtain ⟨y,hy⟩:∃ y,Lx.B ds i=y:=⟨_,rfl⟩
      rw [hy] at hg
      rw [hg] at n0
      have HY:=mkA hy
      obtain ⟨p,hp⟩:∃ p,(y == c)=p:=⟨_,rfl⟩
      have HP:=mkA hp
      clear hasc hy hl hg
      cases p
      · go_wp2_with fail
        go_roundg (ds.size - (i + 1))
        case measure=>have:=HI.out;omega
        case rel =>
          refine ⟨i + 1,⟨by omega,rfl,?_⟩,rfl⟩
          intro k hk
          by_cases hki:k < i
          · exact HI.out.2.2 k hki
          · obtain rfl:k=i:=by omega
            rw [HY.out]
            exact beq_eq_false_iff_ne.mp HP.out
      · go_wp2_with fail
        go_ret
        exact ⟨i,rfl,.inl ⟨i,hlt,by rw [HY.out];exact beq_iff_eq.mp HP.out,rfl⟩,HBI.out _⟩
    · obtain rfl:i=ds.size:=by omega
      have n0:=fun (ty:TypeId) => @run_next_end Tryz.prog w ds ds.size ty hlt
      go_wp2_with fail
      go_ret
      exact ⟨-1,rfl,.inr ⟨HI.out.2.2,rfl⟩,HBI.out _⟩
namespace Lx
theorem runN_mem (s:ByteArray) (j:Nat):∀ i,j ≤ i → i < runN s j → B s i < 128:=by
  intro i hi hr
  unfold runN at hr
  split at hr
  · rename_i h
    split at hr
    · rename_i hc
      by_cases e:i=j
      · subst e
        simp only [Bool.or_eq_true,Bool.and_eq_true,decide_eq_true_eq,isL,isD] at hc
        omega
      · exact runN_mem s (j + 1) i (by omega) hr
    · omega
  · omega
  termination_by s.size - j
theorem ext_mem (s:ByteArray) (a e:Nat) (he:e ≤ s.size) (x:UInt8) (hx:x ∈ (s.extract a e).data.toList):∃ i,a ≤ i∧i < e∧B s i=(x.toNat:Int):=by
  have hl:=list_size s
  rw [ByteArray.data_extract,Array.toList_extract,List.extract_eq_take_drop] at hx
  obtain ⟨k,hk,rfl⟩:=List.mem_iff_getElem.mp hx
  rw [List.length_take,List.length_drop] at hk
  refine ⟨a + k,by omega,by omega,?_⟩
  rw [List.getElem_take,List.getElem_drop]
  exact B_data s (a + k) (by omega)
theorem ext_head (s:ByteArray) (a e:Nat) (h1:a < e) (h2:e ≤ s.size):∃ x r,(s.extract a e).data.toList=x :: r∧B s a=(x.toNat:Int):=by
  have hl:=list_size s
  obtain ⟨b,hb,-,hd⟩:=B_at s a (by omega)
  rw [ByteArray.data_extract,Array.toList_extract,List.extract_eq_take_drop,hd]
  obtain ⟨k,hk⟩:∃ k,e - a=k + 1:=⟨e - a - 1,by omega⟩
  rw [hk,List.take_succ_cons]
  exact ⟨b,_,rfl,hb⟩
theorem tokEnd_three (s:ByteArray) (a:Nat) (f:Bool) (h:(tokEnd s a f).1=3):(tokEnd s a f).2=runN s (a + 1)∧B s a < 128:=by
  unfold tokEnd at h ⊢
  split at h
  · simp at h
  · rename_i c1
    split at h
    · dsimp only at h;split at h <;> simp at h
    · rename_i c2
      split at h
      · rename_i c3
        rw [if_neg c1,if_neg c2,if_pos c3]
        refine ⟨rfl,?_⟩
        simp only [Bool.or_eq_true,Bool.and_eq_true,decide_eq_true_eq,isD] at c3
        omega
      · split at h
        · split at h
          · simp at h
          · dsimp only at h;split at h <;> simp at h
        · split at h <;> simp at h
structure OkKT (N:Nat) (k:Int) (t:ByteArray):Prop where
  num:k=3 → t.data.toList ≠ []∧Asc t
  word:t.data.toList=[100,101,102,105,110,101,100] → k=1
  name:k=1 → t.data.toList ≠ []
  letter:∀ x r,t.data.toList=x :: r → isL (x.toNat:Int)=true → k=1 ∨ k=2
  size:t.size ≤ N
theorem tok_ok (s:ByteArray) (a:Nat) (f:Bool) (h:a < s.size):OkKT s.size (tokEnd s a f).1 (s.extract a (tokEnd s a f).2):=by
  have hb:=tokEnd_b s a f h
  obtain ⟨x,r,e,hx⟩:=ext_head s a _ hb.1 hb.2
  have hne:(s.extract a (tokEnd s a f).2).data.toList ≠ []:=by rw [e];simp
  refine ⟨fun h3=>⟨hne,?_⟩,?_,fun _=>hne,?_,by rw [ByteArray.size_extract];omega⟩
  · obtain ⟨e1,e2⟩:=tokEnd_three s a f h3
    intro y hy
    obtain ⟨i,h1,h2,h4⟩:=ext_mem s a _ hb.2 y hy
    by_cases ei:i=a
    · subst ei;omega
    · have:=runN_mem s (a + 1) i (by omega) (by rw [← e1];exact h2)
      omega
  · intro hd
    rw [e] at hd
    have hx1:x=100:=by simpa using (List.cons.inj hd).1
    have hB:B s a=100:=by rw [hx,hx1];rfl
    have hL:isL (B s a)=true:=by rw [hB];decide
    rw [← e] at hd
    have ht:tokEnd s a f=(if isKey (s.extract a (runW s a)) then 2 else 1,runW s a):=by
      unfold tokEnd
      rw [if_neg (by rw [hB];omega),if_pos hL]
    rw [ht] at hd ⊢
    dsimp only at hd ⊢
    unfold isKey
    rw [hd]
    decide
  · intro y q hy hl
    rw [e] at hy
    have hL:isL (B s a)=true:=by rw [hx,(List.cons.inj hy).1];exact hl
    have hn35:B s a ≠ 35:=by intro e2;rw [e2] at hL;revert hL;decide
    unfold tokEnd
    rw [if_neg (fun e2=>hn35 e2.2),if_pos hL]
    dsimp only
    split
    · exact .inr rfl
    · exact .inl rfl
theorem toks_ok (s:ByteArray) (a:Nat) (f:Bool) (h:a ≤ s.size):∀ t ∈ toks s a f,OkKT s.size t.k t.t:=by
  have h1:=gap_b s a f h
  rw [toks_step s a f h]
  split
  · intro t ht
    rw [List.mem_singleton.1 ht]
    exact ⟨(fun e=>by cases e),(fun e=>by cases e),(fun e=>by cases e),(fun x r e=>by cases e),Nat.zero_le _⟩
  · have h2:=tokEnd_b s (gap s a f).1 (gap s a f).2 (by omega)
    have ih:=toks_ok s (tokEnd s (gap s a f).1 (gap s a f).2).2 false h2.2
    intro t ht
    rcases List.mem_cons.1 ht with rfl | ht
    · exact tok_ok s _ _ (by omega)
    · exact ih t ht
  termination_by s.size - a
theorem OkKT.mono {N M:Nat} {k:Int} {t:ByteArray} (h:OkKT N k t) (hm:N ≤ M):OkKT M k t:=⟨h.num,h.word,h.name,h.letter,Nat.le_trans h.size hm⟩
theorem wline_ok {N:Nat} (hN:1 ≤ N) (add:Int) (l:List Tok) (h:∀ t ∈ l,OkKT N t.k t.t):∀ t ∈ (wline add l).1,OkKT N t.k t.t:=by
  induction l with
  | nil=>intro t ht;simp [wline] at ht
  | cons x r ih =>
    have ih:=ih (fun t ht=>h t (List.mem_cons_of_mem _ ht))
    have hx:=h x List.mem_cons_self
    unfold wline
    split
    · exact ih
    · split
      · intro t ht
        rw [List.mem_singleton.1 ht]
        exact ⟨(fun e=>by cases e),(fun e=>by cases e),(fun e=>by cases e),(fun x r e hl=>by have e1:x=35:=((List.cons.inj e).1).symm;rw [e1] at hl;exact absurd hl (show ¬ isL (((35:UInt8).toNat:Nat):Int)=true from by decide)),hN⟩
      · intro t ht
        rcases List.mem_cons.1 ht with rfl | ht
        · exact hx
        · exact ih t ht
theorem wd_ok (s:ByteArray) (add:Int):∀ t ∈ wd s add,OkKT (s.size + 1) t.k t.t:=by
  have h1:∀ t ∈ (wline add (toks (pre 59 s) 1 false)).1,OkKT (s.size + 1) t.k t.t :=
    wline_ok (by omega) add _ (fun t ht=>(toks_ok (pre 59 s) 1 false (by rw [pre_size];omega) t ht).mono (by rw [pre_size];omega))
  unfold wd
  split
  · exact h1
  · rename_i n hn
    split
    · rename_i hh
      intro t ht
      rcases List.mem_append.1 ht with ht | ht
      · exact h1 t ht
      · have h2:=wd_ok (s.extract n s.size) (add + n) t ht
        rw [ByteArray.size_extract] at h2
        exact h2.mono (by omega)
    · exact h1
  termination_by s.size
  decreasing_by rw [ByteArray.size_extract];omega
end Lx
end Go.Proofs.YtjnafjgonoficaaGreatDoor
