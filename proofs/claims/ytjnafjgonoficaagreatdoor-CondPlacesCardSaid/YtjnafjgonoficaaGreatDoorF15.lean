/-
  The reference's digits, numbers and whole numbers, its names. Conditions: the text is no longer than what memory holds.
-/
import Derived.Test.YtjnafjgonoficaaGreatDoorF14
set_option linter.unusedVariables false
set_option linter.unusedSimpArgs false
namespace Go.Proofs.YtjnafjgonoficaaGreatDoor
open Go.RowKit Go.Proofs.YtjnafjgonoficaaGreatDoorW.PrintWords
theorem wrap_u8 {a:Int} (h0:0 ≤ a) (h1:a ≤ 255):IntKind.u8.wrap a=a:=by
  simp [IntKind.wrap,IntKind.bits,IntKind.signed]
  omega
namespace Lx
def dgI (c:Int):Int:=if 48 ≤ c∧c ≤ 57 then c - 48 else if 97 ≤ c∧c ≤ 102 then c - 87 else if 65 ≤ c∧c ≤ 70 then c - 55 else 99
theorem dgI_dg (c:UInt8):dgI (c.toNat:Int)=(dg c:Nat):=by
  unfold dgI dg
  by_cases h1:48 ≤ c.toNat∧c.toNat ≤ 57
  · rw [if_pos (by omega),if_pos h1];omega
  · rw [if_neg (by omega),if_neg h1]
    by_cases h2:97 ≤ c.toNat∧c.toNat ≤ 102
    · rw [if_pos (by omega),if_pos h2];omega
    · rw [if_neg (by omega),if_neg h2]
      by_cases h3:65 ≤ c.toNat∧c.toNat ≤ 70
      · rw [if_pos (by omega),if_pos h3];omega
      · rw [if_neg (by omega),if_neg h3];rfl
end Lx
set_option maxRecDepth 100000 in
set_option maxHeartbeats 4000000 in
theorem refdig_calls (c:Int) (hr:0 ≤ c∧c ≤ 255) (w:World):Calls Tryz.prog 189 #[.int .u8 c] w fun e w'=>e=.returned (.int .i64 (Lx.dgI c))∧w=w':=by
  have hd:Lx.dgI c=(if 48 ≤ c∧c ≤ 57 then c - 48 else if 97 ≤ c∧c ≤ 102 then c - 87 else if 65 ≤ c∧c ≤ 70 then c - 55 else 99):=rfl
  have h0:=hr.1
  have h255:=hr.2
  have HR:=mkA hr
  clear hr
  by_cases h1:48 ≤ c
  · by_cases h2:c ≤ 57
    · rw [if_pos ⟨h1,h2⟩] at hd
      rw [hd]
      have hw:IntKind.u8.wrap (c - 48)=c - 48:=wrap_u8 (by omega) (by omega)
      clear hd
      go_enter Tryz.func189,Tryz.ntmps189
      go_wp2
      go_ret
      exact ⟨rfl,rfl⟩
    · rw [if_neg (by omega)] at hd
      by_cases h3:97 ≤ c
      · by_cases h4:c ≤ 102
        · rw [if_pos ⟨h3,h4⟩] at hd
          rw [hd,show c - 87=c - 97 + 10 by omega]
          have hw:IntKind.u8.wrap (c - 97)=c - 97:=wrap_u8 (by omega) (by omega)
          clear hd
          go_enter Tryz.func189,Tryz.ntmps189
          go_wp2
          go_ret
          exact ⟨rfl,rfl⟩
        · rw [if_neg (by omega),if_neg (by omega)] at hd
          rw [hd]
          have h5:¬ (c ≤ 70):=by omega
          clear hd
          go_enter Tryz.func189,Tryz.ntmps189
          go_wp2
          go_ret
          exact ⟨rfl,rfl⟩
      · rw [if_neg (by omega)] at hd
        by_cases h5:65 ≤ c
        · by_cases h6:c ≤ 70
          · rw [if_pos ⟨h5,h6⟩] at hd
            rw [hd,show c - 55=c - 65 + 10 by omega]
            have hw:IntKind.u8.wrap (c - 65)=c - 65:=wrap_u8 (by omega) (by omega)
            clear hd
            go_enter Tryz.func189,Tryz.ntmps189
            go_wp2
            go_ret
            exact ⟨rfl,rfl⟩
          · rw [if_neg (by omega)] at hd
            rw [hd]
            clear hd
            go_enter Tryz.func189,Tryz.ntmps189
            go_wp2
            go_ret
            exact ⟨rfl,rfl⟩
        · rw [if_neg (by omega)] at hd
          rw [hd]
          clear hd
          go_enter Tryz.func189,Tryz.ntmps189
          go_wp2
          go_ret
          exact ⟨rfl,rfl⟩
  · rw [if_neg (by omega),if_neg (by omega),if_neg (by omega)] at hd
    rw [hd]
    have h3:¬ (97 ≤ c):=by omega
    have h5:¬ (65 ≤ c):=by omega
    clear hd
    go_enter Tryz.func189,Tryz.ntmps189
    go_wp2
    go_ret
    exact ⟨rfl,rfl⟩
namespace Lx
def accI (b:Nat) (s:ByteArray) (a:Nat):Nat → Int
  | 0=>0
  | n + 1=>accI b s a n * b + dgI (B s (a + n))
theorem accI_succ (b:Nat) (s:ByteArray) (a n:Nat):accI b s a (n + 1)=accI b s a n * b + dgI (B s (a + n)):=rfl
theorem acc_zero (b:Nat) (s:ByteArray) (a:Nat):wrap64 (accI b s a 0)=0:=by unfold accI wrap64;omega
def ulI (c:Int):Bool:=c == 117 || c == 108 || c == 85 || c == 76
theorem ulI_ul (c:UInt8):ulI (c.toNat:Int)=isUL c:=by
  unfold ulI isUL
  have h:∀ n:Nat,((c.toNat:Int) == (n:Int))=(c.toNat == n):=fun n=>by
    rw [Bool.eq_iff_iff,beq_iff_eq,beq_iff_eq];omega
  rw [← h 117,← h 108,← h 85,← h 76];rfl
theorem B_data (s:ByteArray) (i:Nat) (h:i < s.data.toList.length):B s i=(s.data.toList[i].toNat:Int):=by
  have h2:i < s.size:=by rw [Array.length_toList] at h;exact h
  rw [← B_get s i h2];rfl
theorem while_at {α:Type} {p:α → Bool}:∀ (l:List α) (n:Nat),n ≤ l.length → (∀ k (h:k < l.length),k < n → p l[k]=true) → (∀ h:n < l.length,p l[n]=false) → l.takeWhile p=l.take n∧l.dropWhile p=l.drop n
  | [],n,h,_,_=>by simp
  | c :: l,0,h,_,h2=>by
    have:=h2 (by simp)
    simp only [List.getElem_cons_zero] at this
    rw [List.takeWhile_cons,List.dropWhile_cons,this]
    exact ⟨rfl,rfl⟩
  | c :: l,n + 1,h,h1,h2=>by
    have h0:=h1 0 (by simp) (by omega)
    simp only [List.getElem_cons_zero] at h0
    obtain ⟨e1,e2⟩:=while_at l n (by simpa using h) (fun k hk hn=>h1 (k + 1) (Nat.succ_lt_succ hk) (by omega)) (fun hk=>h2 (Nat.succ_lt_succ hk))
    rw [List.takeWhile_cons,List.dropWhile_cons,h0,if_pos rfl,if_pos rfl,e1,e2]
    exact ⟨rfl,rfl⟩
theorem acc_fold (b:Nat) (s:ByteArray) (a:Nat):∀ n,a + n ≤ s.size → accI b s a n=(foldD b 0 ((s.data.toList.drop a).take n):Nat)
  | 0,_=>by simp [accI,foldD]
  | n + 1,h=>by
    have hl:a + n < s.data.toList.length:=by rw [Array.length_toList];show a + n < s.size;omega
    have hd:n < (s.data.toList.drop a).length:=by rw [List.length_drop];omega
    rw [List.take_succ_eq_append_getElem hd]
    unfold accI
    rw [acc_fold b s a n (by omega),B_data s (a + n) hl,dgI_dg]
    unfold foldD
    rw [List.foldl_append]
    simp
theorem rest_eq (b:Nat) (s:ByteArray) (a n j:Nat) (h1:a + n ≤ s.size) (h2:∀ k,k < n → dgI (B s (a + k)) < b) (h3:a + n=s.size ∨ (b:Int) ≤ dgI (B s (a + n))) (h4:a + n ≤ j) (h5:j ≤ s.size) (h6:∀ k,a + n ≤ k → k < j → ulI (B s k)=true) (h7:j=s.size ∨ ulI (B s j)=false) :
    refRest b (s.data.toList.drop a)=(wrap64 (accI b s a n),decide (0 < n) && decide (j=s.size)):=by
  have hsz:s.data.toList.length=s.size:=by rw [Array.length_toList];rfl
  have hlen:(s.data.toList.drop a).length=s.size - a:=by rw [List.length_drop,hsz]
  obtain ⟨e1,e2⟩:=while_at (p:=fun c=>decide (dg c < b)) (s.data.toList.drop a) n (by omega) (fun k hk hn=>by
    have:=h2 k hn
    rw [B_data s (a + k) (by omega),dgI_dg] at this
    rw [List.getElem_drop]
    exact decide_eq_true (by omega)) (fun hk=>by
    rcases h3 with h3 | h3
    · omega
    · rw [B_data s (a + n) (by omega),dgI_dg] at h3
      rw [List.getElem_drop]
      exact decide_eq_false (by omega))
  unfold refRest
  rw [e1,e2,← acc_fold b s a n h1]
  congr 1
  have p1:(!((s.data.toList.drop a).take n).isEmpty)=decide (0 < n):=by
    rw [Bool.eq_iff_iff]
    simp
    omega
  rw [p1]
  congr 1
  rw [List.drop_drop]
  by_cases hj:j=s.size
  · rw [decide_eq_true hj,List.all_eq_true]
    intro x hx
    obtain ⟨k,hk,rfl⟩:=List.mem_iff_getElem.mp hx
    rw [List.length_drop,hsz] at hk
    rw [List.getElem_drop,← ulI_ul,← B_data s _ (by omega)]
    exact h6 _ (by omega) (by omega)
  · rw [decide_eq_false hj]
    have hu:=h7.resolve_left hj
    rw [List.all_eq_false]
    refine ⟨s.data.toList[j]'(by omega),?_,?_⟩
    · refine List.mem_iff_getElem.mpr ⟨j - (a + n),by rw [List.length_drop,hsz];omega,?_⟩
      rw [List.getElem_drop]
      congr 1;omega
    · rw [← ulI_ul,← B_data s j (by omega),hu]
      decide
end Lx
theorem acc_step (b:Nat) (hb:b=8 ∨ b=10 ∨ b=16) (x d:Int):wrap64 (wrap64 (wrap64 x * (b:Int)) + d)=wrap64 (x * b + d):=by
  rcases hb with rfl | rfl | rfl
  all_goals
    unfold wrap64
    omega
set_option maxRecDepth 100000 in
set_option maxHeartbeats 8000000 in
theorem refnum_dec (s:ByteArray) (w:World) (hs:s.size ≤ 100000) (h1:0 < s.size) (h48:Lx.B s 0 ≠ 48):Calls Tryz.prog 169 #[.string s] w fun e w'=>e=.returned (.tuple #[.int .i64 (Lx.refRest 10 (s.data.toList.drop 0)).1,.bool (Lx.refRest 10 (s.data.toList.drop 0)).2])∧w'=w:=by
  have hg0:=B_get s 0 h1
  have h48:(Lx.B s 0 == 48)=false:=beq_eq_false_iff_ne.mpr h48
  have h1i:(0:Int) < (s.size:Int):=by omega
  have HA:=mkA (Nat.zero_le s.size)
  obtain ⟨RR,hRR⟩:∃ RR,Lx.refRest 10 (s.data.toList.drop 0)=RR:=⟨_,rfl⟩
  have HRR:=mkA hRR
  rw [hRR]
  clear hRR
  go_enter Tryz.func169,Tryz.ntmps169
  go_wp2_with fail
  go_loopg [5,6,7] (s.size - 0) (fun kq v5 v6 v7 W => ∃ n i:Nat,v5=.int .i64 i∧v6=.int .i64 (wrap64 (Lx.accI 10 s 0 n))∧v7=.int .i64 n∧Aside0 (i=0 + n∧i ≤ s.size∧kq=s.size - i∧∀ k,k < n → Lx.dgI (Lx.B s (0 + k)) < (10:Nat))∧W=w)
  case atStart=>exact ⟨0,0,rfl,by rw [Lx.acc_zero],rfl,⟨rfl,HA.out,rfl,fun k h=>absurd h (Nat.not_lt_zero k)⟩,rfl⟩
  case round =>
    obtain ⟨n,i,rfl,rfl,rfl,HI,rfl⟩:=hrel
    have hi:=HI.out.2.1
    have hni:n ≤ i:=by have:=HI.out.1;omega
    have hi0:(0:Int) ≤ (i:Int):=Int.natCast_nonneg _
    have hn0:(0:Int) ≤ (n:Int):=Int.natCast_nonneg _
    by_cases hlt:i < s.size
    · have hgi:=B_get s i hlt
      have hlti:(i:Int) < (s.size:Int):=by omega
      obtain ⟨x,hx⟩:∃ x,Lx.B s i=x:=⟨_,rfl⟩
      have hxr:=Lx.B_range s i
      rw [hx] at hgi hxr
      obtain ⟨d,hd⟩:∃ d,Lx.dgI x=d:=⟨_,rfl⟩
      have HDG:=mkA (refdig_calls x hxr)
      rw [hd] at HDG
      have HX:=mkA hx
      have HD:=mkA hd
      have hdr:0 ≤ d∧d ≤ 99:=by rw [← hd];unfold Lx.dgI;omega
      have hd0:=hdr.1
      have hd9:=hdr.2
      clear hx hd hxr hdr
      by_cases hdb:d < (10:Nat)
      · have hds:decide (d < (10:Nat))=true:=decide_eq_true hdb
        have hstep:=acc_step 10 (by omega) (Lx.accI 10 s 0 n) d
        have HST:=mkA hstep
        clear hstep
        go_wp2_with (first | (go_at_call 189;(refine (HDG.out _).mono ?_);rintro e w' ⟨rfl,rfl⟩))
        go_roundg (s.size - (i + 1))
        case measure=>have:=HI.out;omega
        case rel =>
          refine ⟨n + 1,i + 1,by go_num,?_,by go_num,⟨by have:=HI.out.1;omega,by omega,rfl,?_⟩,rfl⟩
          · rw [Lx.accI_succ,← HI.out.1,HX.out,HD.out,← HST.out]
            rfl
          · intro k hk
            by_cases hkn:k < n
            · exact HI.out.2.2.2 k hkn
            · obtain rfl:k=n:=by omega
              rw [← HI.out.1,HX.out,HD.out]
              exact hdb
      · have hds:decide (d < (10:Nat))=false:=decide_eq_false hdb
        have H3:Aside0 (0 + n=s.size ∨ ((10:Nat):Int) ≤ Lx.dgI (Lx.B s (0 + n))):=⟨.inr (by rw [← HI.out.1,HX.out,HD.out];omega)⟩
        go_wp2_with (first | (go_at_call 189;(refine (HDG.out _).mono ?_);rintro e w' ⟨rfl,rfl⟩))
        go_loopg [5] (s.size - i) (fun kq v5 W => ∃ j:Nat,v5=.int .i64 j∧Aside0 (i ≤ j∧j ≤ s.size∧kq=s.size - j∧∀ k,i ≤ k → k < j → Lx.ulI (Lx.B s k)=true)∧W=wr)
        case atStart=>exact ⟨i,rfl,⟨Nat.le_refl _,by omega,rfl,fun k h1 h2=>by omega⟩,rfl⟩
        case round =>
          obtain ⟨j,rfl,HJ,rfl⟩:=hrel
          have hj:=HJ.out.2.1
          have hij:=HJ.out.1
          have hj0:(0:Int) ≤ (j:Int):=Int.natCast_nonneg _
          by_cases hltj:j < s.size
          · have hgj:=B_get s j hltj
            have hltji:(j:Int) < (s.size:Int):=by omega
            obtain ⟨y,hy⟩:∃ y,Lx.B s j=y:=⟨_,rfl⟩
            rw [hy] at hgj
            have HY:=mkA hy
            have hul:Lx.ulI y=(y == 117 || y == 108 || y == 85 || y == 76):=rfl
            clear hy
            cases p1:(y == 117)
            · cases p2:(y == 108)
              · cases p3:(y == 85)
                · cases p4:(y == 76)
                  · rw [p1,p2,p3,p4] at hul
                    have H7:Aside0 (j=s.size ∨ Lx.ulI (Lx.B s j)=false):=⟨.inr (by rw [HY.out,hul];rfl)⟩
                    clear hul
                    have hend:RR=(wrap64 (Lx.accI 10 s 0 n),decide (0 < n) && decide (j=s.size)):=by
                      rw [← HRR.out]
                      refine Lx.rest_eq 10 s 0 n j (by have:=HI.out;omega) HI.out.2.2.2 H3.out (by have:=HI.out;have:=HJ.out;omega) HJ.out.2.1 (fun k h1 h2=>HJ.out.2.2.2 k (by have:=HI.out;omega) h2) H7.out
                    rw [decide_eq_false (show ¬ j=s.size by omega),Bool.and_false] at hend
                    subst hend
                    by_cases hn0:n=0
                    · subst hn0
                      go_wp2_with fail
                      go_ret2
                      exact ⟨rfl,rfl⟩
                    · have hnp:(0:Int) < (n:Int):=by omega
                      have hjn:((j:Int) == (s.size:Int))=false:=beq_eq_false_iff_ne.mpr (by omega)
                      go_wp2_with fail
                      all_goals go_ret2
                      all_goals exact ⟨rfl,rfl⟩
                  · rw [p1,p2,p3,p4] at hul
                    have HUL:=mkA (show Lx.ulI y=true from hul)
                    clear hul
                    go_wp2_with fail
                    go_roundg (s.size - (j + 1))
                    case measure=>have:=HJ.out;omega
                    case rel =>
                      refine ⟨j + 1,by go_num,⟨by omega,by omega,rfl,?_⟩,rfl⟩
                      intro k h1 h2
                      by_cases hkj:k < j
                      · exact HJ.out.2.2.2 k h1 hkj
                      · obtain rfl:k=j:=by omega
                        rw [HY.out]
                        exact HUL.out
                · rw [p1,p2,p3] at hul
                  have HUL:=mkA (show Lx.ulI y=true from hul)
                  clear hul
                  go_wp2_with fail
                  go_roundg (s.size - (j + 1))
                  case measure=>have:=HJ.out;omega
                  case rel =>
                    refine ⟨j + 1,by go_num,⟨by omega,by omega,rfl,?_⟩,rfl⟩
                    intro k h1 h2
                    by_cases hkj:k < j
                    · exact HJ.out.2.2.2 k h1 hkj
                    · obtain rfl:k=j:=by omega
                      rw [HY.out]
                      exact HUL.out
              · rw [p1,p2] at hul
                have HUL:=mkA (show Lx.ulI y=true from hul)
                clear hul
                go_wp2_with fail
                go_roundg (s.size - (j + 1))
                case measure=>have:=HJ.out;omega
                case rel =>
                  refine ⟨j + 1,by go_num,⟨by omega,by omega,rfl,?_⟩,rfl⟩
                  intro k h1 h2
                  by_cases hkj:k < j
                  · exact HJ.out.2.2.2 k h1 hkj
                  · obtain rfl:k=j:=by omega
                    rw [HY.out]
                    exact HUL.out
            · rw [p1] at hul
              have HUL:=mkA (show Lx.ulI y=true from hul)
              clear hul
              go_wp2_with fail
              go_roundg (s.size - (j + 1))
              case measure=>have:=HJ.out;omega
              case rel =>
                refine ⟨j + 1,by go_num,⟨by omega,by omega,rfl,?_⟩,rfl⟩
                intro k h1 h2
                by_cases hkj:k < j
                · exact HJ.out.2.2.2 k h1 hkj
                · obtain rfl:k=j:=by omega
                  rw [HY.out]
                  exact HUL.out
          · have H7:Aside0 (j=s.size ∨ Lx.ulI (Lx.B s j)=false):=⟨.inl (by omega)⟩
            have hend:RR=(wrap64 (Lx.accI 10 s 0 n),decide (0 < n) && decide (j=s.size)):=by
              rw [← HRR.out]
              refine Lx.rest_eq 10 s 0 n j (by have:=HI.out;omega) HI.out.2.2.2 H3.out (by have:=HI.out;have:=HJ.out;omega) HJ.out.2.1 (fun k h1 h2=>HJ.out.2.2.2 k (by have:=HI.out;omega) h2) H7.out
            rw [decide_eq_true (show j=s.size by omega),Bool.and_true] at hend
            obtain rfl:j=s.size:=by omega
            by_cases hn0:n=0
            · subst hn0
              subst hend
              go_wp2_with fail
              go_ret2
              exact ⟨rfl,rfl⟩
            · have hnp:(0:Int) < (n:Int):=by omega
              rw [decide_eq_true (show 0 < n by omega)] at hend
              subst hend
              go_wp2_with fail
              go_ret2
              exact ⟨rfl,rfl⟩
    · obtain rfl:i=s.size:=by omega
      have H3:Aside0 (0 + n=s.size ∨ ((10:Nat):Int) ≤ Lx.dgI (Lx.B s (0 + n))):=⟨.inl HI.out.1.symm⟩
      go_wp2_with fail
      go_loopg [5] (s.size - s.size) (fun kq v5 W => ∃ j:Nat,v5=.int .i64 j∧Aside0 (s.size ≤ j∧j ≤ s.size∧kq=s.size - j∧∀ k,s.size ≤ k → k < j → Lx.ulI (Lx.B s k)=true)∧W=wr)
      case atStart=>exact ⟨s.size,rfl,⟨Nat.le_refl _,by omega,rfl,fun k h1 h2=>by omega⟩,rfl⟩
      case round =>
        obtain ⟨j,rfl,HJ,rfl⟩:=hrel
        have hj:=HJ.out.2.1
        have hij:=HJ.out.1
        have hj0:(0:Int) ≤ (j:Int):=Int.natCast_nonneg _
        by_cases hltj:j < s.size
        · have hgj:=B_get s j hltj
          have hltji:(j:Int) < (s.size:Int):=by omega
          obtain ⟨y,hy⟩:∃ y,Lx.B s j=y:=⟨_,rfl⟩
          rw [hy] at hgj
          have HY:=mkA hy
          have hul:Lx.ulI y=(y == 117 || y == 108 || y == 85 || y == 76):=rfl
          clear hy
          cases p1:(y == 117)
          · cases p2:(y == 108)
            · cases p3:(y == 85)
              · cases p4:(y == 76)
                · rw [p1,p2,p3,p4] at hul
                  have H7:Aside0 (j=s.size ∨ Lx.ulI (Lx.B s j)=false):=⟨.inr (by rw [HY.out,hul];rfl)⟩
                  clear hul
                  have hend:RR=(wrap64 (Lx.accI 10 s 0 n),decide (0 < n) && decide (j=s.size)):=by
                    rw [← HRR.out]
                    refine Lx.rest_eq 10 s 0 n j (by have:=HI.out;omega) HI.out.2.2.2 H3.out (by have:=HI.out;have:=HJ.out;omega) HJ.out.2.1 (fun k h1 h2=>HJ.out.2.2.2 k (by have:=HI.out;omega) h2) H7.out
                  rw [decide_eq_false (show ¬ j=s.size by omega),Bool.and_false] at hend
                  subst hend
                  by_cases hn0:n=0
                  · subst hn0
                    go_wp2_with fail
                    go_ret2
                    exact ⟨rfl,rfl⟩
                  · have hnp:(0:Int) < (n:Int):=by omega
                    have hjn:((j:Int) == (s.size:Int))=false:=beq_eq_false_iff_ne.mpr (by omega)
                    go_wp2_with fail
                    all_goals go_ret2
                    all_goals exact ⟨rfl,rfl⟩
                · rw [p1,p2,p3,p4] at hul
                  have HUL:=mkA (show Lx.ulI y=true from hul)
                  clear hul
                  go_wp2_with fail
                  go_roundg (s.size - (j + 1))
                  case measure=>have:=HJ.out;omega
                  case rel =>
                    refine ⟨j + 1,by go_num,⟨by omega,by omega,rfl,?_⟩,rfl⟩
                    intro k h1 h2
                    by_cases hkj:k < j
                    · exact HJ.out.2.2.2 k h1 hkj
                    · obtain rfl:k=j:=by omega
                      rw [HY.out]
                      exact HUL.out
              · rw [p1,p2,p3] at hul
                have HUL:=mkA (show Lx.ulI y=true from hul)
                clear hul
                go_wp2_with fail
                go_roundg (s.size - (j + 1))
                case measure=>have:=HJ.out;omega
                case rel =>
                  refine ⟨j + 1,by go_num,⟨by omega,by omega,rfl,?_⟩,rfl⟩
                  intro k h1 h2
                  by_cases hkj:k < j
                  · exact HJ.out.2.2.2 k h1 hkj
                  · obtain rfl:k=j:=by omega
                    rw [HY.out]
                    exact HUL.out
            · rw [p1,p2] at hul
              have HUL:=mkA (show Lx.ulI y=true from hul)
              clear hul
              go_wp2_with fail
              go_roundg (s.size - (j + 1))
              case measure=>have:=HJ.out;omega
              case rel =>
                refine ⟨j + 1,by go_num,⟨by omega,by omega,rfl,?_⟩,rfl⟩
                intro k h1 h2
                by_cases hkj:k < j
                · exact HJ.out.2.2.2 k h1 hkj
                · obtain rfl:k=j:=by omega
                  rw [HY.out]
                  exact HUL.out
          · rw [p1] at hul
            have HUL:=mkA (show Lx.ulI y=true from hul)
            clear hul
            go_wp2_with fail
            go_roundg (s.size - (j + 1))
            case measure=>have:=HJ.out;omega
            case rel =>
              refine ⟨j + 1,by go_num,⟨by omega,by omega,rfl,?_⟩,rfl⟩
              intro k h1 h2
              by_cases hkj:k < j
              · exact HJ.out.2.2.2 k h1 hkj
              · obtain rfl:k=j:=by omega
                rw [HY.out]
                exact HUL.out
        · have H7:Aside0 (j=s.size ∨ Lx.ulI (Lx.B s j)=false):=⟨.inl (by omega)⟩
          have hend:RR=(wrap64 (Lx.accI 10 s 0 n),decide (0 < n) && decide (j=s.size)):=by
            rw [← HRR.out]
            refine Lx.rest_eq 10 s 0 n j (by have:=HI.out;omega) HI.out.2.2.2 H3.out (by have:=HI.out;have:=HJ.out;omega) HJ.out.2.1 (fun k h1 h2=>HJ.out.2.2.2 k (by have:=HI.out;omega) h2) H7.out
          rw [decide_eq_true (show j=s.size by omega),Bool.and_true] at hend
          obtain rfl:j=s.size:=by omega
          by_cases hn0:n=0
          · subst hn0
            subst hend
            go_wp2_with fail
            go_ret2
            exact ⟨rfl,rfl⟩
          · have hnp:(0:Int) < (n:Int):=by omega
            rw [decide_eq_true (show 0 < n by omega)] at hend
            subst hend
            go_wp2_with fail
            go_ret2
            exact ⟨rfl,rfl⟩
set_option maxRecDepth 100000 in
set_option maxHeartbeats 8000000 in
theorem refnum_one (s:ByteArray) (w:World) (h1:s.size=1) (h48:Lx.B s 0=48):Calls Tryz.prog 169 #[.string s] w fun e w'=>e=.returned (.tuple #[.int .i64 (Lx.refRest 8 (s.data.toList.drop 0)).1,.bool (Lx.refRest 8 (s.data.toList.drop 0)).2])∧w'=w:=by
  have h0:0 < s.size:=by omega
  have hg0:=B_get s 0 h0
  have h48:(Lx.B s 0 == 48)=true:=beq_iff_eq.mpr h48
  have h1i:(0:Int) < (s.size:Int):=by omega
  have h1n:decide ((1:Int) < (s.size:Int))=false:=decide_eq_false (by omega)
  have HA:=mkA (Nat.zero_le s.size)
  obtain ⟨RR,hRR⟩:∃ RR,Lx.refRest 8 (s.data.toList.drop 0)=RR:=⟨_,rfl⟩
  have HRR:=mkA hRR
  rw [hRR]
  have hs1:s.size ≤ 1:=by omega
  have hsz:s.size ≤ 100000:=by omega
  clear hRR h1 hs1
  go_enter Tryz.func169,Tryz.ntmps169
  go_wp2_with fail
  go_loopg [5,6,7] (s.size - 0) (fun kq v5 v6 v7 W => ∃ n i:Nat,v5=.int .i64 i∧v6=.int .i64 (wrap64 (Lx.accI 8 s 0 n))∧v7=.int .i64 n∧Aside0 (i=0 + n∧i ≤ s.size∧kq=s.size - i∧∀ k,k < n → Lx.dgI (Lx.B s (0 + k)) < (8:Nat))∧W=w)
  case atStart=>exact ⟨0,0,rfl,by rw [Lx.acc_zero],rfl,⟨rfl,HA.out,rfl,fun k h=>absurd h (Nat.not_lt_zero k)⟩,rfl⟩
  case round =>
    obtain ⟨n,i,rfl,rfl,rfl,HI,rfl⟩:=hrel
    have hi:=HI.out.2.1
    have hni:n ≤ i:=by have:=HI.out.1;omega
    have hi0:(0:Int) ≤ (i:Int):=Int.natCast_nonneg _
    have hn0:(0:Int) ≤ (n:Int):=Int.natCast_nonneg _
    by_cases hlt:i < s.size
    · have hgi:=B_get s i hlt
      have hlti:(i:Int) < (s.size:Int):=by omega
      obtain ⟨x,hx⟩:∃ x,Lx.B s i=x:=⟨_,rfl⟩
      have hxr:=Lx.B_range s i
      rw [hx] at hgi hxr
      obtain ⟨d,hd⟩:∃ d,Lx.dgI x=d:=⟨_,rfl⟩
      have HDG:=mkA (refdig_calls x hxr)
      rw [hd] at HDG
      have HX:=mkA hx
      have HD:=mkA hd
      have hdr:0 ≤ d∧d ≤ 99:=by rw [← hd];unfold Lx.dgI;omega
      have hd0:=hdr.1
      have hd9:=hdr.2
      clear hx hd hxr hdr
      by_cases hdb:d < (8:Nat)
      · have hds:decide (d < (8:Nat))=true:=decide_eq_true hdb
        have hstep:=acc_step 8 (by omega) (Lx.accI 8 s 0 n) d
        have HST:=mkA hstep
        clear hstep
        go_wp2_with (first | (go_at_call 189;(refine (HDG.out _).mono ?_);rintro e w' ⟨rfl,rfl⟩))
        go_roundg (s.size - (i + 1))
        case measure=>have:=HI.out;omega
        case rel =>
          refine ⟨n + 1,i + 1,by go_num,?_,by go_num,⟨by have:=HI.out.1;omega,by omega,rfl,?_⟩,rfl⟩
          · rw [Lx.accI_succ,← HI.out.1,HX.out,HD.out,← HST.out]
            rfl
          · intro k hk
            by_cases hkn:k < n
            · exact HI.out.2.2.2 k hkn
            · obtain rfl:k=n:=by omega
              rw [← HI.out.1,HX.out,HD.out]
              exact hdb
      · have hds:decide (d < (8:Nat))=false:=decide_eq_false hdb
        have H3:Aside0 (0 + n=s.size ∨ ((8:Nat):Int) ≤ Lx.dgI (Lx.B s (0 + n))):=⟨.inr (by rw [← HI.out.1,HX.out,HD.out];omega)⟩
        go_wp2_with (first | (go_at_call 189;(refine (HDG.out _).mono ?_);rintro e w' ⟨rfl,rfl⟩))
        go_loopg [5] (s.size - i) (fun kq v5 W => ∃ j:Nat,v5=.int .i64 j∧Aside0 (i ≤ j∧j ≤ s.size∧kq=s.size - j∧∀ k,i ≤ k → k < j → Lx.ulI (Lx.B s k)=true)∧W=wr)
        case atStart=>exact ⟨i,rfl,⟨Nat.le_refl _,by omega,rfl,fun k h1 h2=>by omega⟩,rfl⟩
        case round =>
          obtain ⟨j,rfl,HJ,rfl⟩:=hrel
          have hj:=HJ.out.2.1
          have hij:=HJ.out.1
          have hj0:(0:Int) ≤ (j:Int):=Int.natCast_nonneg _
          by_cases hltj:j < s.size
          · have hgj:=B_get s j hltj
            have hltji:(j:Int) < (s.size:Int):=by omega
            obtain ⟨y,hy⟩:∃ y,Lx.B s j=y:=⟨_,rfl⟩
            rw [hy] at hgj
            have HY:=mkA hy
            have hul:Lx.ulI y=(y == 117 || y == 108 || y == 85 || y == 76):=rfl
            clear hy
            cases p1:(y == 117)
            · cases p2:(y == 108)
              · cases p3:(y == 85)
                · cases p4:(y == 76)
                  · rw [p1,p2,p3,p4] at hul
                    have H7:Aside0 (j=s.size ∨ Lx.ulI (Lx.B s j)=false):=⟨.inr (by rw [HY.out,hul];rfl)⟩
                    clear hul
                    have hend:RR=(wrap64 (Lx.accI 8 s 0 n),decide (0 < n) && decide (j=s.size)):=by
                      rw [← HRR.out]
                      refine Lx.rest_eq 8 s 0 n j (by have:=HI.out;omega) HI.out.2.2.2 H3.out (by have:=HI.out;have:=HJ.out;omega) HJ.out.2.1 (fun k h1 h2=>HJ.out.2.2.2 k (by have:=HI.out;omega) h2) H7.out
                    rw [decide_eq_false (show ¬ j=s.size by omega),Bool.and_false] at hend
                    subst hend
                    by_cases hn0:n=0
                    · subst hn0
                      go_wp2_with fail
                      go_ret2
                      exact ⟨rfl,rfl⟩
                    · have hnp:(0:Int) < (n:Int):=by omega
                      have hjn:((j:Int) == (s.size:Int))=false:=beq_eq_false_iff_ne.mpr (by omega)
                      go_wp2_with fail
                      all_goals go_ret2
                      all_goals exact ⟨rfl,rfl⟩
                  · rw [p1,p2,p3,p4] at hul
                    have HUL:=mkA (show Lx.ulI y=true from hul)
                    clear hul
                    go_wp2_with fail
                    go_roundg (s.size - (j + 1))
                    case measure=>have:=HJ.out;omega
                    case rel =>
                      refine ⟨j + 1,by go_num,⟨by omega,by omega,rfl,?_⟩,rfl⟩
                      intro k h1 h2
                      by_cases hkj:k < j
                      · exact HJ.out.2.2.2 k h1 hkj
                      · obtain rfl:k=j:=by omega
                        rw [HY.out]
                        exact HUL.out
                · rw [p1,p2,p3] at hul
                  have HUL:=mkA (show Lx.ulI y=true from hul)
                  clear hul
                  go_wp2_with fail
                  go_roundg (s.size - (j + 1))
                  case measure=>have:=HJ.out;omega
                  case rel =>
                    refine ⟨j + 1,by go_num,⟨by omega,by omega,rfl,?_⟩,rfl⟩
                    intro k h1 h2
                    by_cases hkj:k < j
                    · exact HJ.out.2.2.2 k h1 hkj
                    · obtain rfl:k=j:=by omega
                      rw [HY.out]
                      exact HUL.out
              · rw [p1,p2] at hul
                have HUL:=mkA (show Lx.ulI y=true from hul)
                clear hul
                go_wp2_with fail
                go_roundg (s.size - (j + 1))
                case measure=>have:=HJ.out;omega
                case rel =>
                  refine ⟨j + 1,by go_num,⟨by omega,by omega,rfl,?_⟩,rfl⟩
                  intro k h1 h2
                  by_cases hkj:k < j
                  · exact HJ.out.2.2.2 k h1 hkj
                  · obtain rfl:k=j:=by omega
                    rw [HY.out]
                    exact HUL.out
            · rw [p1] at hul
              have HUL:=mkA (show Lx.ulI y=true from hul)
              clear hul
              go_wp2_with fail
              go_roundg (s.size - (j + 1))
              case measure=>have:=HJ.out;omega
              case rel =>
                refine ⟨j + 1,by go_num,⟨by omega,by omega,rfl,?_⟩,rfl⟩
                intro k h1 h2
                by_cases hkj:k < j
                · exact HJ.out.2.2.2 k h1 hkj
                · obtain rfl:k=j:=by omega
                  rw [HY.out]
                  exact HUL.out
          · have H7:Aside0 (j=s.size ∨ Lx.ulI (Lx.B s j)=false):=⟨.inl (by omega)⟩
            have hend:RR=(wrap64 (Lx.accI 8 s 0 n),decide (0 < n) && decide (j=s.size)):=by
              rw [← HRR.out]
              refine Lx.rest_eq 8 s 0 n j (by have:=HI.out;omega) HI.out.2.2.2 H3.out (by have:=HI.out;have:=HJ.out;omega) HJ.out.2.1 (fun k h1 h2=>HJ.out.2.2.2 k (by have:=HI.out;omega) h2) H7.out
            rw [decide_eq_true (show j=s.size by omega),Bool.and_true] at hend
            obtain rfl:j=s.size:=by omega
            by_cases hn0:n=0
            · subst hn0
              subst hend
              go_wp2_with fail
              go_ret2
              exact ⟨rfl,rfl⟩
            · have hnp:(0:Int) < (n:Int):=by omega
              rw [decide_eq_true (show 0 < n by omega)] at hend
              subst hend
              go_wp2_with fail
              go_ret2
              exact ⟨rfl,rfl⟩
    · obtain rfl:i=s.size:=by omega
      have H3:Aside0 (0 + n=s.size ∨ ((8:Nat):Int) ≤ Lx.dgI (Lx.B s (0 + n))):=⟨.inl HI.out.1.symm⟩
      go_wp2_with fail
      go_loopg [5] (s.size - s.size) (fun kq v5 W => ∃ j:Nat,v5=.int .i64 j∧Aside0 (s.size ≤ j∧j ≤ s.size∧kq=s.size - j∧∀ k,s.size ≤ k → k < j → Lx.ulI (Lx.B s k)=true)∧W=wr)
      case atStart=>exact ⟨s.size,rfl,⟨Nat.le_refl _,by omega,rfl,fun k h1 h2=>by omega⟩,rfl⟩
      case round =>
        obtain ⟨j,rfl,HJ,rfl⟩:=hrel
        have hj:=HJ.out.2.1
        have hij:=HJ.out.1
        have hj0:(0:Int) ≤ (j:Int):=Int.natCast_nonneg _
        by_cases hltj:j < s.size
        · have hgj:=B_get s j hltj
          have hltji:(j:Int) < (s.size:Int):=by omega
          obtain ⟨y,hy⟩:∃ y,Lx.B s j=y:=⟨_,rfl⟩
          rw [hy] at hgj
          have HY:=mkA hy
          have hul:Lx.ulI y=(y == 117 || y == 108 || y == 85 || y == 76):=rfl
          clear hy
          cases p1:(y == 117)
          · cases p2:(y == 108)
            · cases p3:(y == 85)
              · cases p4:(y == 76)
                · rw [p1,p2,p3,p4] at hul
                  have H7:Aside0 (j=s.size ∨ Lx.ulI (Lx.B s j)=false):=⟨.inr (by rw [HY.out,hul];rfl)⟩
                  clear hul
                  have hend:RR=(wrap64 (Lx.accI 8 s 0 n),decide (0 < n) && decide (j=s.size)):=by
                    rw [← HRR.out]
                    refine Lx.rest_eq 8 s 0 n j (by have:=HI.out;omega) HI.out.2.2.2 H3.out (by have:=HI.out;have:=HJ.out;omega) HJ.out.2.1 (fun k h1 h2=>HJ.out.2.2.2 k (by have:=HI.out;omega) h2) H7.out
                  rw [decide_eq_false (show ¬ j=s.size by omega),Bool.and_false] at hend
                  subst hend
                  by_cases hn0:n=0
                  · subst hn0
                    go_wp2_with fail
                    go_ret2
                    exact ⟨rfl,rfl⟩
                  · have hnp:(0:Int) < (n:Int):=by omega
                    have hjn:((j:Int) == (s.size:Int))=false:=beq_eq_false_iff_ne.mpr (by omega)
                    go_wp2_with fail
                    all_goals go_ret2
                    all_goals exact ⟨rfl,rfl⟩
                · rw [p1,p2,p3,p4] at hul
                  have HUL:=mkA (show Lx.ulI y=true from hul)
                  clear hul
                  go_wp2_with fail
                  go_roundg (s.size - (j + 1))
                  case measure=>have:=HJ.out;omega
                  case rel =>
                    refine ⟨j + 1,by go_num,⟨by omega,by omega,rfl,?_⟩,rfl⟩
                    intro k h1 h2
                    by_cases hkj:k < j
                    · exact HJ.out.2.2.2 k h1 hkj
                    · obtain rfl:k=j:=by omega
                      rw [HY.out]
                      exact HUL.out
              · rw [p1,p2,p3] at hul
                have HUL:=mkA (show Lx.ulI y=true from hul)
                clear hul
                go_wp2_with fail
                go_roundg (s.size - (j + 1))
                case measure=>have:=HJ.out;omega
                case rel =>
                  refine ⟨j + 1,by go_num,⟨by omega,by omega,rfl,?_⟩,rfl⟩
                  intro k h1 h2
                  by_cases hkj:k < j
                  · exact HJ.out.2.2.2 k h1 hkj
                  · obtain rfl:k=j:=by omega
                    rw [HY.out]
                    exact HUL.out
            · rw [p1,p2] at hul
              have HUL:=mkA (show Lx.ulI y=true from hul)
              clear hul
              go_wp2_with fail
              go_roundg (s.size - (j + 1))
              case measure=>have:=HJ.out;omega
              case rel =>
                refine ⟨j + 1,by go_num,⟨by omega,by omega,rfl,?_⟩,rfl⟩
                intro k h1 h2
                by_cases hkj:k < j
                · exact HJ.out.2.2.2 k h1 hkj
                · obtain rfl:k=j:=by omega
                  rw [HY.out]
                  exact HUL.out
          · rw [p1] at hul
            have HUL:=mkA (show Lx.ulI y=true from hul)
            clear hul
            go_wp2_with fail
            go_roundg (s.size - (j + 1))
            case measure=>have:=HJ.out;omega
            case rel =>
              refine ⟨j + 1,by go_num,⟨by omega,by omega,rfl,?_⟩,rfl⟩
              intro k h1 h2
              by_cases hkj:k < j
              · exact HJ.out.2.2.2 k h1 hkj
              · obtain rfl:k=j:=by omega
                rw [HY.out]
                exact HUL.out
        · have H7:Aside0 (j=s.size ∨ Lx.ulI (Lx.B s j)=false):=⟨.inl (by omega)⟩
          have hend:RR=(wrap64 (Lx.accI 8 s 0 n),decide (0 < n) && decide (j=s.size)):=by
            rw [← HRR.out]
            refine Lx.rest_eq 8 s 0 n j (by have:=HI.out;omega) HI.out.2.2.2 H3.out (by have:=HI.out;have:=HJ.out;omega) HJ.out.2.1 (fun k h1 h2=>HJ.out.2.2.2 k (by have:=HI.out;omega) h2) H7.out
          rw [decide_eq_true (show j=s.size by omega),Bool.and_true] at hend
          obtain rfl:j=s.size:=by omega
          by_cases hn0:n=0
          · subst hn0
            subst hend
            go_wp2_with fail
            go_ret2
            exact ⟨rfl,rfl⟩
          · have hnp:(0:Int) < (n:Int):=by omega
            rw [decide_eq_true (show 0 < n by omega)] at hend
            subst hend
            go_wp2_with fail
            go_ret2
            exact ⟨rfl,rfl⟩
set_option maxRecDepth 100000 in
set_option maxHeartbeats 8000000 in
theorem refnum_oct (s:ByteArray) (w:World) (hs:s.size ≤ 100000) (h1:1 < s.size) (h48:Lx.B s 0=48) (hx:Lx.B s 1 ≠ 120) (hX:Lx.B s 1 ≠ 88):Calls Tryz.prog 169 #[.string s] w fun e w'=>e=.returned (.tuple #[.int .i64 (Lx.refRest 8 (s.data.toList.drop 0)).1,.bool (Lx.refRest 8 (s.data.toList.drop 0)).2])∧w'=w:=by
  have hg0:=B_get s 0 (by omega)
  have hg1:=B_get s 1 h1
  have h48:(Lx.B s 0 == 48)=true:=beq_iff_eq.mpr h48
  have hx:(Lx.B s 1 == 120)=false:=beq_eq_false_iff_ne.mpr hx
  have hX:(Lx.B s 1 == 88)=false:=beq_eq_false_iff_ne.mpr hX
  have h0i:(0:Int) < (s.size:Int):=by omega
  have h1i:(1:Int) < (s.size:Int):=by omega
  have HA:=mkA (Nat.zero_le s.size)
  obtain ⟨RR,hRR⟩:∃ RR,Lx.refRest 8 (s.data.toList.drop 0)=RR:=⟨_,rfl⟩
  have HRR:=mkA hRR
  rw [hRR]
  clear hRR
  go_enter Tryz.func169,Tryz.ntmps169
  go_wp2_with fail
  go_loopg [5,6,7] (s.size - 0) (fun kq v5 v6 v7 W => ∃ n i:Nat,v5=.int .i64 i∧v6=.int .i64 (wrap64 (Lx.accI 8 s 0 n))∧v7=.int .i64 n∧Aside0 (i=0 + n∧i ≤ s.size∧kq=s.size - i∧∀ k,k < n → Lx.dgI (Lx.B s (0 + k)) < (8:Nat))∧W=w)
  case atStart=>exact ⟨0,0,rfl,by rw [Lx.acc_zero],rfl,⟨rfl,HA.out,rfl,fun k h=>absurd h (Nat.not_lt_zero k)⟩,rfl⟩
  case round =>
    obtain ⟨n,i,rfl,rfl,rfl,HI,rfl⟩:=hrel
    have hi:=HI.out.2.1
    have hni:n ≤ i:=by have:=HI.out.1;omega
    have hi0:(0:Int) ≤ (i:Int):=Int.natCast_nonneg _
    have hn0:(0:Int) ≤ (n:Int):=Int.natCast_nonneg _
    by_cases hlt:i < s.size
    · have hgi:=B_get s i hlt
      have hlti:(i:Int) < (s.size:Int):=by omega
      obtain ⟨x,hx⟩:∃ x,Lx.B s i=x:=⟨_,rfl⟩
      have hxr:=Lx.B_range s i
      rw [hx] at hgi hxr
      obtain ⟨d,hd⟩:∃ d,Lx.dgI x=d:=⟨_,rfl⟩
      have HDG:=mkA (refdig_calls x hxr)
      rw [hd] at HDG
      have HX:=mkA hx
      have HD:=mkA hd
      have hdr:0 ≤ d∧d ≤ 99:=by rw [← hd];unfold Lx.dgI;omega
      have hd0:=hdr.1
      have hd9:=hdr.2
      clear hx hd hxr hdr
      by_cases hdb:d < (8:Nat)
      · have hds:decide (d < (8:Nat))=true:=decide_eq_true hdb
        have hstep:=acc_step 8 (by omega) (Lx.accI 8 s 0 n) d
        have HST:=mkA hstep
        clear hstep
        go_wp2_with (first | (go_at_call 189;(refine (HDG.out _).mono ?_);rintro e w' ⟨rfl,rfl⟩))
        go_roundg (s.size - (i + 1))
        case measure=>have:=HI.out;omega
        case rel =>
          refine ⟨n + 1,i + 1,by go_num,?_,by go_num,⟨by have:=HI.out.1;omega,by omega,rfl,?_⟩,rfl⟩
          · rw [Lx.accI_succ,← HI.out.1,HX.out,HD.out,← HST.out]
            rfl
          · intro k hk
            by_cases hkn:k < n
            · exact HI.out.2.2.2 k hkn
            · obtain rfl:k=n:=by omega
              rw [← HI.out.1,HX.out,HD.out]
              exact hdb
      · have hds:decide (d < (8:Nat))=false:=decide_eq_false hdb
        have H3:Aside0 (0 + n=s.size ∨ ((8:Nat):Int) ≤ Lx.dgI (Lx.B s (0 + n))):=⟨.inr (by rw [← HI.out.1,HX.out,HD.out];omega)⟩
        go_wp2_with (first | (go_at_call 189;(refine (HDG.out _).mono ?_);rintro e w' ⟨rfl,rfl⟩))
        go_loopg [5] (s.size - i) (fun kq v5 W => ∃ j:Nat,v5=.int .i64 j∧Aside0 (i ≤ j∧j ≤ s.size∧kq=s.size - j∧∀ k,i ≤ k → k < j → Lx.ulI (Lx.B s k)=true)∧W=wr)
        case atStart=>exact ⟨i,rfl,⟨Nat.le_refl _,by omega,rfl,fun k h1 h2=>by omega⟩,rfl⟩
        case round =>
          obtain ⟨j,rfl,HJ,rfl⟩:=hrel
          have hj:=HJ.out.2.1
          have hij:=HJ.out.1
          have hj0:(0:Int) ≤ (j:Int):=Int.natCast_nonneg _
          by_cases hltj:j < s.size
          · have hgj:=B_get s j hltj
            have hltji:(j:Int) < (s.size:Int):=by omega
            obtain ⟨y,hy⟩:∃ y,Lx.B s j=y:=⟨_,rfl⟩
            rw [hy] at hgj
            have HY:=mkA hy
            have hul:Lx.ulI y=(y == 117 || y == 108 || y == 85 || y == 76):=rfl
            clear hy
            cases p1:(y == 117)
            · cases p2:(y == 108)
              · cases p3:(y == 85)
                · cases p4:(y == 76)
                  · rw [p1,p2,p3,p4] at hul
                    have H7:Aside0 (j=s.size ∨ Lx.ulI (Lx.B s j)=false):=⟨.inr (by rw [HY.out,hul];rfl)⟩
                    clear hul
                    have hend:RR=(wrap64 (Lx.accI 8 s 0 n),decide (0 < n) && decide (j=s.size)):=by
                      rw [← HRR.out]
                      refine Lx.rest_eq 8 s 0 n j (by have:=HI.out;omega) HI.out.2.2.2 H3.out (by have:=HI.out;have:=HJ.out;omega) HJ.out.2.1 (fun k h1 h2=>HJ.out.2.2.2 k (by have:=HI.out;omega) h2) H7.out
                    rw [decide_eq_false (show ¬ j=s.size by omega),Bool.and_false] at hend
                    subst hend
                    by_cases hn0:n=0
                    · subst hn0
                      go_wp2_with fail
                      go_ret2
                      exact ⟨rfl,rfl⟩
                    · have hnp:(0:Int) < (n:Int):=by omega
                      have hjn:((j:Int) == (s.size:Int))=false:=beq_eq_false_iff_ne.mpr (by omega)
                      go_wp2_with fail
                      all_goals go_ret2
                      all_goals exact ⟨rfl,rfl⟩
                  · rw [p1,p2,p3,p4] at hul
                    have HUL:=mkA (show Lx.ulI y=true from hul)
                    clear hul
                    go_wp2_with fail
                    go_roundg (s.size - (j + 1))
                    case measure=>have:=HJ.out;omega
                    case rel =>
                      refine ⟨j + 1,by go_num,⟨by omega,by omega,rfl,?_⟩,rfl⟩
                      intro k h1 h2
                      by_cases hkj:k < j
                      · exact HJ.out.2.2.2 k h1 hkj
                      · obtain rfl:k=j:=by omega
                        rw [HY.out]
                        exact HUL.out
                · rw [p1,p2,p3] at hul
                  have HUL:=mkA (show Lx.ulI y=true from hul)
                  clear hul
                  go_wp2_with fail
                  go_roundg (s.size - (j + 1))
                  case measure=>have:=HJ.out;omega
                  case rel =>
                    refine ⟨j + 1,by go_num,⟨by omega,by omega,rfl,?_⟩,rfl⟩
                    intro k h1 h2
                    by_cases hkj:k < j
                    · exact HJ.out.2.2.2 k h1 hkj
                    · obtain rfl:k=j:=by omega
                      rw [HY.out]
                      exact HUL.out
              · rw [p1,p2] at hul
                have HUL:=mkA (show Lx.ulI y=true from hul)
                clear hul
                go_wp2_with fail
                go_roundg (s.size - (j + 1))
                case measure=>have:=HJ.out;omega
                case rel =>
                  refine ⟨j + 1,by go_num,⟨by omega,by omega,rfl,?_⟩,rfl⟩
                  intro k h1 h2
                  by_cases hkj:k < j
                  · exact HJ.out.2.2.2 k h1 hkj
                  · obtain rfl:k=j:=by omega
                    rw [HY.out]
                    exact HUL.out
            · rw [p1] at hul
              have HUL:=mkA (show Lx.ulI y=true from hul)
              clear hul
              go_wp2_with fail
              go_roundg (s.size - (j + 1))
              case measure=>have:=HJ.out;omega
              case rel =>
                refine ⟨j + 1,by go_num,⟨by omega,by omega,rfl,?_⟩,rfl⟩
                intro k h1 h2
                by_cases hkj:k < j
                · exact HJ.out.2.2.2 k h1 hkj
                · obtain rfl:k=j:=by omega
                  rw [HY.out]
                  exact HUL.out
          · have H7:Aside0 (j=s.size ∨ Lx.ulI (Lx.B s j)=false):=⟨.inl (by omega)⟩
            have hend:RR=(wrap64 (Lx.accI 8 s 0 n),decide (0 < n) && decide (j=s.size)):=by
              rw [← HRR.out]
              refine Lx.rest_eq 8 s 0 n j (by have:=HI.out;omega) HI.out.2.2.2 H3.out (by have:=HI.out;have:=HJ.out;omega) HJ.out.2.1 (fun k h1 h2=>HJ.out.2.2.2 k (by have:=HI.out;omega) h2) H7.out
            rw [decide_eq_true (show j=s.size by omega),Bool.and_true] at hend
            obtain rfl:j=s.size:=by omega
            by_cases hn0:n=0
            · subst hn0
              subst hend
              go_wp2_with fail
              go_ret2
              exact ⟨rfl,rfl⟩
            · have hnp:(0:Int) < (n:Int):=by omega
              rw [decide_eq_true (show 0 < n by omega)] at hend
              subst hend
              go_wp2_with fail
              go_ret2
              exact ⟨rfl,rfl⟩
    · obtain rfl:i=s.size:=by omega
      have H3:Aside0 (0 + n=s.size ∨ ((8:Nat):Int) ≤ Lx.dgI (Lx.B s (0 + n))):=⟨.inl HI.out.1.symm⟩
      go_wp2_with fail
      go_loopg [5] (s.size - s.size) (fun kq v5 W => ∃ j:Nat,v5=.int .i64 j∧Aside0 (s.size ≤ j∧j ≤ s.size∧kq=s.size - j∧∀ k,s.size ≤ k → k < j → Lx.ulI (Lx.B s k)=true)∧W=wr)
      case atStart=>exact ⟨s.size,rfl,⟨Nat.le_refl _,by omega,rfl,fun k h1 h2=>by omega⟩,rfl⟩
      case round =>
        obtain ⟨j,rfl,HJ,rfl⟩:=hrel
        have hj:=HJ.out.2.1
        have hij:=HJ.out.1
        have hj0:(0:Int) ≤ (j:Int):=Int.natCast_nonneg _
        by_cases hltj:j < s.size
        · have hgj:=B_get s j hltj
          have hltji:(j:Int) < (s.size:Int):=by omega
          obtain ⟨y,hy⟩:∃ y,Lx.B s j=y:=⟨_,rfl⟩
          rw [hy] at hgj
          have HY:=mkA hy
          have hul:Lx.ulI y=(y == 117 || y == 108 || y == 85 || y == 76):=rfl
          clear hy
          cases p1:(y == 117)
          · cases p2:(y == 108)
            · cases p3:(y == 85)
              · cases p4:(y == 76)
                · rw [p1,p2,p3,p4] at hul
                  have H7:Aside0 (j=s.size ∨ Lx.ulI (Lx.B s j)=false):=⟨.inr (by rw [HY.out,hul];rfl)⟩
                  clear hul
                  have hend:RR=(wrap64 (Lx.accI 8 s 0 n),decide (0 < n) && decide (j=s.size)):=by
                    rw [← HRR.out]
                    refine Lx.rest_eq 8 s 0 n j (by have:=HI.out;omega) HI.out.2.2.2 H3.out (by have:=HI.out;have:=HJ.out;omega) HJ.out.2.1 (fun k h1 h2=>HJ.out.2.2.2 k (by have:=HI.out;omega) h2) H7.out
                  rw [decide_eq_false (show ¬ j=s.size by omega),Bool.and_false] at hend
                  subst hend
                  by_cases hn0:n=0
                  · subst hn0
                    go_wp2_with fail
                    go_ret2
                    exact ⟨rfl,rfl⟩
                  · have hnp:(0:Int) < (n:Int):=by omega
                    have hjn:((j:Int) == (s.size:Int))=false:=beq_eq_false_iff_ne.mpr (by omega)
                    go_wp2_with fail
                    all_goals go_ret2
                    all_goals exact ⟨rfl,rfl⟩
                · rw [p1,p2,p3,p4] at hul
                  have HUL:=mkA (show Lx.ulI y=true from hul)
                  clear hul
                  go_wp2_with fail
                  go_roundg (s.size - (j + 1))
                  case measure=>have:=HJ.out;omega
                  case rel =>
                    refine ⟨j + 1,by go_num,⟨by omega,by omega,rfl,?_⟩,rfl⟩
                    intro k h1 h2
                    by_cases hkj:k < j
                    · exact HJ.out.2.2.2 k h1 hkj
                    · obtain rfl:k=j:=by omega
                      rw [HY.out]
                      exact HUL.out
              · rw [p1,p2,p3] at hul
                have HUL:=mkA (show Lx.ulI y=true from hul)
                clear hul
                go_wp2_with fail
                go_roundg (s.size - (j + 1))
                case measure=>have:=HJ.out;omega
                case rel =>
                  refine ⟨j + 1,by go_num,⟨by omega,by omega,rfl,?_⟩,rfl⟩
                  intro k h1 h2
                  by_cases hkj:k < j
                  · exact HJ.out.2.2.2 k h1 hkj
                  · obtain rfl:k=j:=by omega
                    rw [HY.out]
                    exact HUL.out
            · rw [p1,p2] at hul
              have HUL:=mkA (show Lx.ulI y=true from hul)
              clear hul
              go_wp2_with fail
              go_roundg (s.size - (j + 1))
              case measure=>have:=HJ.out;omega
              case rel =>
                refine ⟨j + 1,by go_num,⟨by omega,by omega,rfl,?_⟩,rfl⟩
                intro k h1 h2
                by_cases hkj:k < j
                · exact HJ.out.2.2.2 k h1 hkj
                · obtain rfl:k=j:=by omega
                  rw [HY.out]
                  exact HUL.out
          · rw [p1] at hul
            have HUL:=mkA (show Lx.ulI y=true from hul)
            clear hul
            go_wp2_with fail
            go_roundg (s.size - (j + 1))
            case measure=>have:=HJ.out;omega
            case rel =>
              refine ⟨j + 1,by go_num,⟨by omega,by omega,rfl,?_⟩,rfl⟩
              intro k h1 h2
              by_cases hkj:k < j
              · exact HJ.out.2.2.2 k h1 hkj
              · obtain rfl:k=j:=by omega
                rw [HY.out]
                exact HUL.out
        · have H7:Aside0 (j=s.size ∨ Lx.ulI (Lx.B s j)=false):=⟨.inl (by omega)⟩
          have hend:RR=(wrap64 (Lx.accI 8 s 0 n),decide (0 < n) && decide (j=s.size)):=by
            rw [← HRR.out]
            refine Lx.rest_eq 8 s 0 n j (by have:=HI.out;omega) HI.out.2.2.2 H3.out (by have:=HI.out;have:=HJ.out;omega) HJ.out.2.1 (fun k h1 h2=>HJ.out.2.2.2 k (by have:=HI.out;omega) h2) H7.out
          rw [decide_eq_true (show j=s.size by omega),Bool.and_true] at hend
          obtain rfl:j=s.size:=by omega
          by_cases hn0:n=0
          · subst hn0
            subst hend
            go_wp2_with fail
            go_ret2
            exact ⟨rfl,rfl⟩
          · have hnp:(0:Int) < (n:Int):=by omega
            rw [decide_eq_true (show 0 < n by omega)] at hend
            subst hend
            go_wp2_with fail
            go_ret2
            exact ⟨rfl,rfl⟩
set_option maxRecDepth 100000 in
set_option maxHeartbeats 8000000 in
theorem refnum_hex (s:ByteArray) (w:World) (hs:s.size ≤ 100000) (h1:1 < s.size) (h48:Lx.B s 0=48) (hx:Lx.B s 1=120 ∨ Lx.B s 1=88):Calls Tryz.prog 169 #[.string s] w fun e w'=>e=.returned (.tuple #[.int .i64 (Lx.refRest 16 (s.data.toList.drop 2)).1,.bool (Lx.refRest 16 (s.data.toList.drop 2)).2])∧w'=w:=by
  have hg0:=B_get s 0 (by omega)
  have hg1:=B_get s 1 h1
  have h48:(Lx.B s 0 == 48)=true:=beq_iff_eq.mpr h48
  obtain ⟨p,hp⟩:∃ p,(Lx.B s 1 == 120)=p:=⟨_,rfl⟩
  obtain ⟨q,hq⟩:∃ q,(Lx.B s 1 == 88)=q:=⟨_,rfl⟩
  have hpq:p=true ∨ (p=false∧q=true):=by
    rcases hx with h | h
    · left;rw [← hp,h];rfl
    · right;rw [← hp,← hq,h];exact ⟨rfl,rfl⟩
  have h0i:(0:Int) < (s.size:Int):=by omega
  have h1i:(1:Int) < (s.size:Int):=by omega
  have HA:=mkA (show 2 ≤ s.size by omega)
  obtain ⟨RR,hRR⟩:∃ RR,Lx.refRest 16 (s.data.toList.drop 2)=RR:=⟨_,rfl⟩
  have HRR:=mkA hRR
  rw [hRR]
  clear hRR hx
  rcases hpq with rfl | ⟨rfl,rfl⟩
  · clear hq
    go_enter Tryz.func169,Tryz.ntmps169
    go_wp2_with fail
    go_loopg [5,6,7] (s.size - 2) (fun kq v5 v6 v7 W => ∃ n i:Nat,v5=.int .i64 i∧v6=.int .i64 (wrap64 (Lx.accI 16 s 2 n))∧v7=.int .i64 n∧Aside0 (i=2 + n∧i ≤ s.size∧kq=s.size - i∧∀ k,k < n → Lx.dgI (Lx.B s (2 + k)) < (16:Nat))∧W=w)
    case atStart=>exact ⟨0,2,rfl,by rw [Lx.acc_zero],rfl,⟨rfl,HA.out,rfl,fun k h=>absurd h (Nat.not_lt_zero k)⟩,rfl⟩
    case round =>
      obtain ⟨n,i,rfl,rfl,rfl,HI,rfl⟩:=hrel
      have hi:=HI.out.2.1
      have hni:n ≤ i:=by have:=HI.out.1;omega
      have hi0:(0:Int) ≤ (i:Int):=Int.natCast_nonneg _
      have hn0:(0:Int) ≤ (n:Int):=Int.natCast_nonneg _
      by_cases hlt:i < s.size
      · have hgi:=B_get s i hlt
        have hlti:(i:Int) < (s.size:Int):=by omega
        obtain ⟨x,hx⟩:∃ x,Lx.B s i=x:=⟨_,rfl⟩
        have hxr:=Lx.B_range s i
        rw [hx] at hgi hxr
        obtain ⟨d,hd⟩:∃ d,Lx.dgI x=d:=⟨_,rfl⟩
        have HDG:=mkA (refdig_calls x hxr)
        rw [hd] at HDG
        have HX:=mkA hx
        have HD:=mkA hd
        have hdr:0 ≤ d∧d ≤ 99:=by rw [← hd];unfold Lx.dgI;omega
        have hd0:=hdr.1
        have hd9:=hdr.2
        clear hx hd hxr hdr
        by_cases hdb:d < (16:Nat)
        · have hds:decide (d < (16:Nat))=true:=decide_eq_true hdb
          have hstep:=acc_step 16 (by omega) (Lx.accI 16 s 2 n) d
          have HST:=mkA hstep
          clear hstep
          go_wp2_with (first | (go_at_call 189;(refine (HDG.out _).mono ?_);rintro e w' ⟨rfl,rfl⟩))
          go_roundg (s.size - (i + 1))
          case measure=>have:=HI.out;omega
          case rel =>
            refine ⟨n + 1,i + 1,by go_num,?_,by go_num,⟨by have:=HI.out.1;omega,by omega,rfl,?_⟩,rfl⟩
            · rw [Lx.accI_succ,← HI.out.1,HX.out,HD.out,← HST.out]
              rfl
            · intro k hk
              by_cases hkn:k < n
              · exact HI.out.2.2.2 k hkn
              · obtain rfl:k=n:=by omega
                rw [← HI.out.1,HX.out,HD.out]
                exact hdb
        · have hds:decide (d < (16:Nat))=false:=decide_eq_false hdb
          have H3:Aside0 (2 + n=s.size ∨ ((16:Nat):Int) ≤ Lx.dgI (Lx.B s (2 + n))):=⟨.inr (by rw [← HI.out.1,HX.out,HD.out];omega)⟩
          go_wp2_with (first | (go_at_call 189;(refine (HDG.out _).mono ?_);rintro e w' ⟨rfl,rfl⟩))
          go_loopg [5] (s.size - i) (fun kq v5 W => ∃ j:Nat,v5=.int .i64 j∧Aside0 (i ≤ j∧j ≤ s.size∧kq=s.size - j∧∀ k,i ≤ k → k < j → Lx.ulI (Lx.B s k)=true)∧W=wr)
          case atStart=>exact ⟨i,rfl,⟨Nat.le_refl _,by omega,rfl,fun k h1 h2=>by omega⟩,rfl⟩
          case round =>
            obtain ⟨j,rfl,HJ,rfl⟩:=hrel
            have hj:=HJ.out.2.1
            have hij:=HJ.out.1
            have hj0:(0:Int) ≤ (j:Int):=Int.natCast_nonneg _
            by_cases hltj:j < s.size
            · have hgj:=B_get s j hltj
              have hltji:(j:Int) < (s.size:Int):=by omega
              obtain ⟨y,hy⟩:∃ y,Lx.B s j=y:=⟨_,rfl⟩
              rw [hy] at hgj
              have HY:=mkA hy
              have hul:Lx.ulI y=(y == 117 || y == 108 || y == 85 || y == 76):=rfl
              clear hy
              cases p1:(y == 117)
              · cases p2:(y == 108)
                · cases p3:(y == 85)
                  · cases p4:(y == 76)
                    · rw [p1,p2,p3,p4] at hul
                      have H7:Aside0 (j=s.size ∨ Lx.ulI (Lx.B s j)=false):=⟨.inr (by rw [HY.out,hul];rfl)⟩
                      clear hul
                      have hend:RR=(wrap64 (Lx.accI 16 s 2 n),decide (0 < n) && decide (j=s.size)):=by
                        rw [← HRR.out]
                        refine Lx.rest_eq 16 s 2 n j (by have:=HI.out;omega) HI.out.2.2.2 H3.out (by have:=HI.out;have:=HJ.out;omega) HJ.out.2.1 (fun k h1 h2=>HJ.out.2.2.2 k (by have:=HI.out;omega) h2) H7.out
                      rw [decide_eq_false (show ¬ j=s.size by omega),Bool.and_false] at hend
                      subst hend
                      by_cases hn0:n=0
                      · subst hn0
                        go_wp2_with fail
                        go_ret2
                        exact ⟨rfl,rfl⟩
                      · have hnp:(0:Int) < (n:Int):=by omega
                        have hjn:((j:Int) == (s.size:Int))=false:=beq_eq_false_iff_ne.mpr (by omega)
                        go_wp2_with fail
                        all_goals go_ret2
                        all_goals exact ⟨rfl,rfl⟩
                    · rw [p1,p2,p3,p4] at hul
                      have HUL:=mkA (show Lx.ulI y=true from hul)
                      clear hul
                      go_wp2_with fail
                      go_roundg (s.size - (j + 1))
                      case measure=>have:=HJ.out;omega
                      case rel =>
                        refine ⟨j + 1,by go_num,⟨by omega,by omega,rfl,?_⟩,rfl⟩
                        intro k h1 h2
                        by_cases hkj:k < j
                        · exact HJ.out.2.2.2 k h1 hkj
                        · obtain rfl:k=j:=by omega
                          rw [HY.out]
                          exact HUL.out
                  · rw [p1,p2,p3] at hul
                    have HUL:=mkA (show Lx.ulI y=true from hul)
                    clear hul
                    go_wp2_with fail
                    go_roundg (s.size - (j + 1))
                    case measure=>have:=HJ.out;omega
                    case rel =>
                      refine ⟨j + 1,by go_num,⟨by omega,by omega,rfl,?_⟩,rfl⟩
                      intro k h1 h2
                      by_cases hkj:k < j
                      · exact HJ.out.2.2.2 k h1 hkj
                      · obtain rfl:k=j:=by omega
                        rw [HY.out]
                        exact HUL.out
                · rw [p1,p2] at hul
                  have HUL:=mkA (show Lx.ulI y=true from hul)
                  clear hul
                  go_wp2_with fail
                  go_roundg (s.size - (j + 1))
                  case measure=>have:=HJ.out;omega
                  case rel =>
                    refine ⟨j + 1,by go_num,⟨by omega,by omega,rfl,?_⟩,rfl⟩
                    intro k h1 h2
                    by_cases hkj:k < j
                    · exact HJ.out.2.2.2 k h1 hkj
                    · obtain rfl:k=j:=by omega
                      rw [HY.out]
                      exact HUL.out
              · rw [p1] at hul
                have HUL:=mkA (show Lx.ulI y=true from hul)
                clear hul
                go_wp2_with fail
                go_roundg (s.size - (j + 1))
                case measure=>have:=HJ.out;omega
                case rel =>
                  refine ⟨j + 1,by go_num,⟨by omega,by omega,rfl,?_⟩,rfl⟩
                  intro k h1 h2
                  by_cases hkj:k < j
                  · exact HJ.out.2.2.2 k h1 hkj
                  · obtain rfl:k=j:=by omega
                    rw [HY.out]
                    exact HUL.out
            · have H7:Aside0 (j=s.size ∨ Lx.ulI (Lx.B s j)=false):=⟨.inl (by omega)⟩
              have hend:RR=(wrap64 (Lx.accI 16 s 2 n),decide (0 < n) && decide (j=s.size)):=by
                rw [← HRR.out]
                refine Lx.rest_eq 16 s 2 n j (by have:=HI.out;omega) HI.out.2.2.2 H3.out (by have:=HI.out;have:=HJ.out;omega) HJ.out.2.1 (fun k h1 h2=>HJ.out.2.2.2 k (by have:=HI.out;omega) h2) H7.out
              rw [decide_eq_true (show j=s.size by omega),Bool.and_true] at hend
              obtain rfl:j=s.size:=by omega
              by_cases hn0:n=0
              · subst hn0
                subst hend
                go_wp2_with fail
                go_ret2
                exact ⟨rfl,rfl⟩
              · have hnp:(0:Int) < (n:Int):=by omega
                rw [decide_eq_true (show 0 < n by omega)] at hend
                subst hend
                go_wp2_with fail
                go_ret2
                exact ⟨rfl,rfl⟩
      · obtain rfl:i=s.size:=by omega
        have H3:Aside0 (2 + n=s.size ∨ ((16:Nat):Int) ≤ Lx.dgI (Lx.B s (2 + n))):=⟨.inl HI.out.1.symm⟩
        go_wp2_with fail
        go_loopg [5] (s.size - s.size) (fun kq v5 W => ∃ j:Nat,v5=.int .i64 j∧Aside0 (s.size ≤ j∧j ≤ s.size∧kq=s.size - j∧∀ k,s.size ≤ k → k < j → Lx.ulI (Lx.B s k)=true)∧W=wr)
        case atStart=>exact ⟨s.size,rfl,⟨Nat.le_refl _,by omega,rfl,fun k h1 h2=>by omega⟩,rfl⟩
        case round =>
          obtain ⟨j,rfl,HJ,rfl⟩:=hrel
          have hj:=HJ.out.2.1
          have hij:=HJ.out.1
          have hj0:(0:Int) ≤ (j:Int):=Int.natCast_nonneg _
          by_cases hltj:j < s.size
          · have hgj:=B_get s j hltj
            have hltji:(j:Int) < (s.size:Int):=by omega
            obtain ⟨y,hy⟩:∃ y,Lx.B s j=y:=⟨_,rfl⟩
            rw [hy] at hgj
            have HY:=mkA hy
            have hul:Lx.ulI y=(y == 117 || y == 108 || y == 85 || y == 76):=rfl
            clear hy
            cases p1:(y == 117)
            · cases p2:(y == 108)
              · cases p3:(y == 85)
                · cases p4:(y == 76)
                  · rw [p1,p2,p3,p4] at hul
                    have H7:Aside0 (j=s.size ∨ Lx.ulI (Lx.B s j)=false):=⟨.inr (by rw [HY.out,hul];rfl)⟩
                    clear hul
                    have hend:RR=(wrap64 (Lx.accI 16 s 2 n),decide (0 < n) && decide (j=s.size)):=by
                      rw [← HRR.out]
                      refine Lx.rest_eq 16 s 2 n j (by have:=HI.out;omega) HI.out.2.2.2 H3.out (by have:=HI.out;have:=HJ.out;omega) HJ.out.2.1 (fun k h1 h2=>HJ.out.2.2.2 k (by have:=HI.out;omega) h2) H7.out
                    rw [decide_eq_false (show ¬ j=s.size by omega),Bool.and_false] at hend
                    subst hend
                    by_cases hn0:n=0
                    · subst hn0
                      go_wp2_with fail
                      go_ret2
                      exact ⟨rfl,rfl⟩
                    · have hnp:(0:Int) < (n:Int):=by omega
                      have hjn:((j:Int) == (s.size:Int))=false:=beq_eq_false_iff_ne.mpr (by omega)
                      go_wp2_with fail
                      all_goals go_ret2
                      all_goals exact ⟨rfl,rfl⟩
                  · rw [p1,p2,p3,p4] at hul
                    have HUL:=mkA (show Lx.ulI y=true from hul)
                    clear hul
                    go_wp2_with fail
                    go_roundg (s.size - (j + 1))
                    case measure=>have:=HJ.out;omega
                    case rel =>
                      refine ⟨j + 1,by go_num,⟨by omega,by omega,rfl,?_⟩,rfl⟩
                      intro k h1 h2
                      by_cases hkj:k < j
                      · exact HJ.out.2.2.2 k h1 hkj
                      · obtain rfl:k=j:=by omega
                        rw [HY.out]
                        exact HUL.out
                · rw [p1,p2,p3] at hul
                  have HUL:=mkA (show Lx.ulI y=true from hul)
                  clear hul
                  go_wp2_with fail
                  go_roundg (s.size - (j + 1))
                  case measure=>have:=HJ.out;omega
                  case rel =>
                    refine ⟨j + 1,by go_num,⟨by omega,by omega,rfl,?_⟩,rfl⟩
                    intro k h1 h2
                    by_cases hkj:k < j
                    · exact HJ.out.2.2.2 k h1 hkj
                    · obtain rfl:k=j:=by omega
                      rw [HY.out]
                      exact HUL.out
              · rw [p1,p2] at hul
                have HUL:=mkA (show Lx.ulI y=true from hul)
                clear hul
                go_wp2_with fail
                go_roundg (s.size - (j + 1))
                case measure=>have:=HJ.out;omega
                case rel =>
                  refine ⟨j + 1,by go_num,⟨by omega,by omega,rfl,?_⟩,rfl⟩
                  intro k h1 h2
                  by_cases hkj:k < j
                  · exact HJ.out.2.2.2 k h1 hkj
                  · obtain rfl:k=j:=by omega
                    rw [HY.out]
                    exact HUL.out
            · rw [p1] at hul
              have HUL:=mkA (show Lx.ulI y=true from hul)
              clear hul
              go_wp2_with fail
              go_roundg (s.size - (j + 1))
              case measure=>have:=HJ.out;omega
              case rel =>
                refine ⟨j + 1,by go_num,⟨by omega,by omega,rfl,?_⟩,rfl⟩
                intro k h1 h2
                by_cases hkj:k < j
                · exact HJ.out.2.2.2 k h1 hkj
                · obtain rfl:k=j:=by omega
                  rw [HY.out]
                  exact HUL.out
          · have H7:Aside0 (j=s.size ∨ Lx.ulI (Lx.B s j)=false):=⟨.inl (by omega)⟩
            have hend:RR=(wrap64 (Lx.accI 16 s 2 n),decide (0 < n) && decide (j=s.size)):=by
              rw [← HRR.out]
              refine Lx.rest_eq 16 s 2 n j (by have:=HI.out;omega) HI.out.2.2.2 H3.out (by have:=HI.out;have:=HJ.out;omega) HJ.out.2.1 (fun k h1 h2=>HJ.out.2.2.2 k (by have:=HI.out;omega) h2) H7.out
            rw [decide_eq_true (show j=s.size by omega),Bool.and_true] at hend
            obtain rfl:j=s.size:=by omega
            by_cases hn0:n=0
            · subst hn0
              subst hend
              go_wp2_with fail
              go_ret2
              exact ⟨rfl,rfl⟩
            · have hnp:(0:Int) < (n:Int):=by omega
              rw [decide_eq_true (show 0 < n by omega)] at hend
              subst hend
              go_wp2_with fail
              go_ret2
              exact ⟨rfl,rfl⟩
  · go_enter Tryz.func169,Tryz.ntmps169
    go_wp2_with fail
    go_loopg [5,6,7] (s.size - 2) (fun kq v5 v6 v7 W => ∃ n i:Nat,v5=.int .i64 i∧v6=.int .i64 (wrap64 (Lx.accI 16 s 2 n))∧v7=.int .i64 n∧Aside0 (i=2 + n∧i ≤ s.size∧kq=s.size - i∧∀ k,k < n → Lx.dgI (Lx.B s (2 + k)) < (16:Nat))∧W=w)
    case atStart=>exact ⟨0,2,rfl,by rw [Lx.acc_zero],rfl,⟨rfl,HA.out,rfl,fun k h=>absurd h (Nat.not_lt_zero k)⟩,rfl⟩
    case round =>
      obtain ⟨n,i,rfl,rfl,rfl,HI,rfl⟩:=hrel
      have hi:=HI.out.2.1
      have hni:n ≤ i:=by have:=HI.out.1;omega
      have hi0:(0:Int) ≤ (i:Int):=Int.natCast_nonneg _
      have hn0:(0:Int) ≤ (n:Int):=Int.natCast_nonneg _
      by_cases hlt:i < s.size
      · have hgi:=B_get s i hlt
        have hlti:(i:Int) < (s.size:Int):=by omega
        obtain ⟨x,hx⟩:∃ x,Lx.B s i=x:=⟨_,rfl⟩
        have hxr:=Lx.B_range s i
        rw [hx] at hgi hxr
        obtain ⟨d,hd⟩:∃ d,Lx.dgI x=d:=⟨_,rfl⟩
        have HDG:=mkA (refdig_calls x hxr)
        rw [hd] at HDG
        have HX:=mkA hx
        have HD:=mkA hd
        have hdr:0 ≤ d∧d ≤ 99:=by rw [← hd];unfold Lx.dgI;omega
        have hd0:=hdr.1
        have hd9:=hdr.2
        clear hx hd hxr hdr
        by_cases hdb:d < (16:Nat)
        · have hds:decide (d < (16:Nat))=true:=decide_eq_true hdb
          have hstep:=acc_step 16 (by omega) (Lx.accI 16 s 2 n) d
          have HST:=mkA hstep
          clear hstep
          go_wp2_with (first | (go_at_call 189;(refine (HDG.out _).mono ?_);rintro e w' ⟨rfl,rfl⟩))
          go_roundg (s.size - (i + 1))
          case measure=>have:=HI.out;omega
          case rel =>
            refine ⟨n + 1,i + 1,by go_num,?_,by go_num,⟨by have:=HI.out.1;omega,by omega,rfl,?_⟩,rfl⟩
            · rw [Lx.accI_succ,← HI.out.1,HX.out,HD.out,← HST.out]
              rfl
            · intro k hk
              by_cases hkn:k < n
              · exact HI.out.2.2.2 k hkn
              · obtain rfl:k=n:=by omega
                rw [← HI.out.1,HX.out,HD.out]
                exact hdb
        · have hds:decide (d < (16:Nat))=false:=decide_eq_false hdb
          have H3:Aside0 (2 + n=s.size ∨ ((16:Nat):Int) ≤ Lx.dgI (Lx.B s (2 + n))):=⟨.inr (by rw [← HI.out.1,HX.out,HD.out];omega)⟩
          go_wp2_with (first | (go_at_call 189;(refine (HDG.out _).mono ?_);rintro e w' ⟨rfl,rfl⟩))
          go_loopg [5] (s.size - i) (fun kq v5 W => ∃ j:Nat,v5=.int .i64 j∧Aside0 (i ≤ j∧j ≤ s.size∧kq=s.size - j∧∀ k,i ≤ k → k < j → Lx.ulI (Lx.B s k)=true)∧W=wr)
          case atStart=>exact ⟨i,rfl,⟨Nat.le_refl _,by omega,rfl,fun k h1 h2=>by omega⟩,rfl⟩
          case round =>
            obtain ⟨j,rfl,HJ,rfl⟩:=hrel
            have hj:=HJ.out.2.1
            have hij:=HJ.out.1
            have hj0:(0:Int) ≤ (j:Int):=Int.natCast_nonneg _
            by_cases hltj:j < s.size
            · have hgj:=B_get s j hltj
              have hltji:(j:Int) < (s.size:Int):=by omega
              obtain ⟨y,hy⟩:∃ y,Lx.B s j=y:=⟨_,rfl⟩
              rw [hy] at hgj
              have HY:=mkA hy
              have hul:Lx.ulI y=(y == 117 || y == 108 || y == 85 || y == 76):=rfl
              clear hy
              cases p1:(y == 117)
              · cases p2:(y == 108)
                · cases p3:(y == 85)
                  · cases p4:(y == 76)
                    · rw [p1,p2,p3,p4] at hul
                      have H7:Aside0 (j=s.size ∨ Lx.ulI (Lx.B s j)=false):=⟨.inr (by rw [HY.out,hul];rfl)⟩
                      clear hul
                      have hend:RR=(wrap64 (Lx.accI 16 s 2 n),decide (0 < n) && decide (j=s.size)):=by
                        rw [← HRR.out]
                        refine Lx.rest_eq 16 s 2 n j (by have:=HI.out;omega) HI.out.2.2.2 H3.out (by have:=HI.out;have:=HJ.out;omega) HJ.out.2.1 (fun k h1 h2=>HJ.out.2.2.2 k (by have:=HI.out;omega) h2) H7.out
                      rw [decide_eq_false (show ¬ j=s.size by omega),Bool.and_false] at hend
                      subst hend
                      by_cases hn0:n=0
                      · subst hn0
                        go_wp2_with fail
                        go_ret2
                        exact ⟨rfl,rfl⟩
                      · have hnp:(0:Int) < (n:Int):=by omega
                        have hjn:((j:Int) == (s.size:Int))=false:=beq_eq_false_iff_ne.mpr (by omega)
                        go_wp2_with fail
                        all_goals go_ret2
                        all_goals exact ⟨rfl,rfl⟩
                    · rw [p1,p2,p3,p4] at hul
                      have HUL:=mkA (show Lx.ulI y=true from hul)
                      clear hul
                      go_wp2_with fail
                      go_roundg (s.size - (j + 1))
                      case measure=>have:=HJ.out;omega
                      case rel =>
                        refine ⟨j + 1,by go_num,⟨by omega,by omega,rfl,?_⟩,rfl⟩
                        intro k h1 h2
                        by_cases hkj:k < j
                        · exact HJ.out.2.2.2 k h1 hkj
                        · obtain rfl:k=j:=by omega
                          rw [HY.out]
                          exact HUL.out
                  · rw [p1,p2,p3] at hul
                    have HUL:=mkA (show Lx.ulI y=true from hul)
                    clear hul
                    go_wp2_with fail
                    go_roundg (s.size - (j + 1))
                    case measure=>have:=HJ.out;omega
                    case rel =>
                      refine ⟨j + 1,by go_num,⟨by omega,by omega,rfl,?_⟩,rfl⟩
                      intro k h1 h2
                      by_cases hkj:k < j
                      · exact HJ.out.2.2.2 k h1 hkj
                      · obtain rfl:k=j:=by omega
                        rw [HY.out]
                        exact HUL.out
                · rw [p1,p2] at hul
                  have HUL:=mkA (show Lx.ulI y=true from hul)
                  clear hul
                  go_wp2_with fail
                  go_roundg (s.size - (j + 1))
                  case measure=>have:=HJ.out;omega
                  case rel =>
                    refine ⟨j + 1,by go_num,⟨by omega,by omega,rfl,?_⟩,rfl⟩
                    intro k h1 h2
                    by_cases hkj:k < j
                    · exact HJ.out.2.2.2 k h1 hkj
                    · obtain rfl:k=j:=by omega
                      rw [HY.out]
                      exact HUL.out
              · rw [p1] at hul
                have HUL:=mkA (show Lx.ulI y=true from hul)
                clear hul
                go_wp2_with fail
                go_roundg (s.size - (j + 1))
                case measure=>have:=HJ.out;omega
                case rel =>
                  refine ⟨j + 1,by go_num,⟨by omega,by omega,rfl,?_⟩,rfl⟩
                  intro k h1 h2
                  by_cases hkj:k < j
                  · exact HJ.out.2.2.2 k h1 hkj
                  · obtain rfl:k=j:=by omega
                    rw [HY.out]
                    exact HUL.out
            · have H7:Aside0 (j=s.size ∨ Lx.ulI (Lx.B s j)=false):=⟨.inl (by omega)⟩
              have hend:RR=(wrap64 (Lx.accI 16 s 2 n),decide (0 < n) && decide (j=s.size)):=by
                rw [← HRR.out]
                refine Lx.rest_eq 16 s 2 n j (by have:=HI.out;omega) HI.out.2.2.2 H3.out (by have:=HI.out;have:=HJ.out;omega) HJ.out.2.1 (fun k h1 h2=>HJ.out.2.2.2 k (by have:=HI.out;omega) h2) H7.out
              rw [decide_eq_true (show j=s.size by omega),Bool.and_true] at hend
              obtain rfl:j=s.size:=by omega
              by_cases hn0:n=0
              · subst hn0
                subst hend
                go_wp2_with fail
                go_ret2
                exact ⟨rfl,rfl⟩
              · have hnp:(0:Int) < (n:Int):=by omega
                rw [decide_eq_true (show 0 < n by omega)] at hend
                subst hend
                go_wp2_with fail
                go_ret2
                exact ⟨rfl,rfl⟩
      · obtain rfl:i=s.size:=by omega
        have H3:Aside0 (2 + n=s.size ∨ ((16:Nat):Int) ≤ Lx.dgI (Lx.B s (2 + n))):=⟨.inl HI.out.1.symm⟩
        go_wp2_with fail
        go_loopg [5] (s.size - s.size) (fun kq v5 W => ∃ j:Nat,v5=.int .i64 j∧Aside0 (s.size ≤ j∧j ≤ s.size∧kq=s.size - j∧∀ k,s.size ≤ k → k < j → Lx.ulI (Lx.B s k)=true)∧W=wr)
        case atStart=>exact ⟨s.size,rfl,⟨Nat.le_refl _,by omega,rfl,fun k h1 h2=>by omega⟩,rfl⟩
        case round =>
          obtain ⟨j,rfl,HJ,rfl⟩:=hrel
          have hj:=HJ.out.2.1
          have hij:=HJ.out.1
          have hj0:(0:Int) ≤ (j:Int):=Int.natCast_nonneg _
          by_cases hltj:j < s.size
          · have hgj:=B_get s j hltj
            have hltji:(j:Int) < (s.size:Int):=by omega
            obtain ⟨y,hy⟩:∃ y,Lx.B s j=y:=⟨_,rfl⟩
            rw [hy] at hgj
            have HY:=mkA hy
            have hul:Lx.ulI y=(y == 117 || y == 108 || y == 85 || y == 76):=rfl
            clear hy
            cases p1:(y == 117)
            · cases p2:(y == 108)
              · cases p3:(y == 85)
                · cases p4:(y == 76)
                  · rw [p1,p2,p3,p4] at hul
                    have H7:Aside0 (j=s.size ∨ Lx.ulI (Lx.B s j)=false):=⟨.inr (by rw [HY.out,hul];rfl)⟩
                    clear hul
                    have hend:RR=(wrap64 (Lx.accI 16 s 2 n),decide (0 < n) && decide (j=s.size)):=by
                      rw [← HRR.out]
                      refine Lx.rest_eq 16 s 2 n j (by have:=HI.out;omega) HI.out.2.2.2 H3.out (by have:=HI.out;have:=HJ.out;omega) HJ.out.2.1 (fun k h1 h2=>HJ.out.2.2.2 k (by have:=HI.out;omega) h2) H7.out
                    rw [decide_eq_false (show ¬ j=s.size by omega),Bool.and_false] at hend
                    subst hend
                    by_cases hn0:n=0
                    · subst hn0
                      go_wp2_with fail
                      go_ret2
                      exact ⟨rfl,rfl⟩
                    · have hnp:(0:Int) < (n:Int):=by omega
                      have hjn:((j:Int) == (s.size:Int))=false:=beq_eq_false_iff_ne.mpr (by omega)
                      go_wp2_with fail
                      all_goals go_ret2
                      all_goals exact ⟨rfl,rfl⟩
                  · rw [p1,p2,p3,p4] at hul
                    have HUL:=mkA (show Lx.ulI y=true from hul)
                    clear hul
                    go_wp2_with fail
                    go_roundg (s.size - (j + 1))
                    case measure=>have:=HJ.out;omega
                    case rel =>
                      refine ⟨j + 1,by go_num,⟨by omega,by omega,rfl,?_⟩,rfl⟩
                      intro k h1 h2
                      by_cases hkj:k < j
                      · exact HJ.out.2.2.2 k h1 hkj
                      · obtain rfl:k=j:=by omega
                        rw [HY.out]
                        exact HUL.out
                · rw [p1,p2,p3] at hul
                  have HUL:=mkA (show Lx.ulI y=true from hul)
                  clear hul
                  go_wp2_with fail
                  go_roundg (s.size - (j + 1))
                  case measure=>have:=HJ.out;omega
                  case rel =>
                    refine ⟨j + 1,by go_num,⟨by omega,by omega,rfl,?_⟩,rfl⟩
                    intro k h1 h2
                    by_cases hkj:k < j
                    · exact HJ.out.2.2.2 k h1 hkj
                    · obtain rfl:k=j:=by omega
                      rw [HY.out]
                      exact HUL.out
              · rw [p1,p2] at hul
                have HUL:=mkA (show Lx.ulI y=true from hul)
                clear hul
                go_wp2_with fail
                go_roundg (s.size - (j + 1))
                case measure=>have:=HJ.out;omega
                case rel =>
                  refine ⟨j + 1,by go_num,⟨by omega,by omega,rfl,?_⟩,rfl⟩
                  intro k h1 h2
                  by_cases hkj:k < j
                  · exact HJ.out.2.2.2 k h1 hkj
                  · obtain rfl:k=j:=by omega
                    rw [HY.out]
                    exact HUL.out
            · rw [p1] at hul
              have HUL:=mkA (show Lx.ulI y=true from hul)
              clear hul
              go_wp2_with fail
              go_roundg (s.size - (j + 1))
              case measure=>have:=HJ.out;omega
              case rel =>
                refine ⟨j + 1,by go_num,⟨by omega,by omega,rfl,?_⟩,rfl⟩
                intro k h1 h2
                by_cases hkj:k < j
                · exact HJ.out.2.2.2 k h1 hkj
                · obtain rfl:k=j:=by omega
                  rw [HY.out]
                  exact HUL.out
          · have H7:Aside0 (j=s.size ∨ Lx.ulI (Lx.B s j)=false):=⟨.inl (by omega)⟩
            have hend:RR=(wrap64 (Lx.accI 16 s 2 n),decide (0 < n) && decide (j=s.size)):=by
              rw [← HRR.out]
              refine Lx.rest_eq 16 s 2 n j (by have:=HI.out;omega) HI.out.2.2.2 H3.out (by have:=HI.out;have:=HJ.out;omega) HJ.out.2.1 (fun k h1 h2=>HJ.out.2.2.2 k (by have:=HI.out;omega) h2) H7.out
            rw [decide_eq_true (show j=s.size by omega),Bool.and_true] at hend
            obtain rfl:j=s.size:=by omega
            by_cases hn0:n=0
            · subst hn0
              subst hend
              go_wp2_with fail
              go_ret2
              exact ⟨rfl,rfl⟩
            · have hnp:(0:Int) < (n:Int):=by omega
              rw [decide_eq_true (show 0 < n by omega)] at hend
              subst hend
              go_wp2_with fail
              go_ret2
              exact ⟨rfl,rfl⟩
theorem refnum_calls (s:ByteArray) (w:World) (hs:s.size ≤ 100000) (h1:0 < s.size):Calls Tryz.prog 169 #[.string s] w fun e w'=>e=.returned (.tuple #[.int .i64 (Lx.refNum s.data.toList).1,.bool (Lx.refNum s.data.toList).2])∧w'=w:=by
  have hlen:s.data.toList.length=s.size:=by rw [Array.length_toList];rfl
  have hb0:=Lx.B_data s 0 (by omega)
  by_cases h48:Lx.B s 0=48
  · by_cases hz:s.size=1
    · have h:=refnum_one s w hz h48
      rw [List.drop_zero] at h
      cases hl:s.data.toList with
      | nil=>rw [hl] at hlen;simp at hlen;omega
      | cons x r =>
        rw [hl] at hlen h
        cases r with
        | cons y r=>simp at hlen;omega
        | nil =>
          rw [Lx.refNum_one x (by simp only [hl,List.getElem_cons_zero] at hb0;omega)]
          exact h
    · have hb1:=Lx.B_data s 1 (by omega)
      cases hl:s.data.toList with
      | nil=>rw [hl] at hlen;simp at hlen;omega
      | cons x r =>
        cases r with
        | nil=>rw [hl] at hlen;simp at hlen;omega
        | cons y r =>
          simp only [hl,List.getElem_cons_zero,List.getElem_cons_succ] at hb0 hb1
          by_cases hx:Lx.B s 1=120 ∨ Lx.B s 1=88
          · have h:=refnum_hex s w hs (by omega) h48 hx
            rw [hl] at h
            rw [Lx.refNum_hex x y r (by omega) (by omega)]
            exact h
          · have h:=refnum_oct s w hs (by omega) h48 (fun e=>hx (.inl e)) (fun e=>hx (.inr e))
            rw [hl,List.drop_zero] at h
            rw [Lx.refNum_oct x y r (by omega) (by omega)]
            exact h
  · have h:=refnum_dec s w hs h1 h48
    rw [List.drop_zero] at h
    cases hl:s.data.toList with
    | nil=>rw [hl] at hlen;simp at hlen;omega
    | cons x r =>
      rw [hl] at h
      simp only [hl,List.getElem_cons_zero] at hb0
      rw [Lx.refNum_dec x r (by omega)]
      exact h
end Go.Proofs.YtjnafjgonoficaaGreatDoor
