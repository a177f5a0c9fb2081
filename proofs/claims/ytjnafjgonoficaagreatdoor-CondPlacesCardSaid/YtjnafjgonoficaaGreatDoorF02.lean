/-
  What the reference lexer's lines and quoted texts come to. Conditions: the text is short.
  What the lexer's names, numbers and quoted texts come to. Conditions: the scanner's cells lie in a block, and the text is short.
-/
import Derived.Test.YtjnafjgonoficaaGreatDoorF01
set_option linter.unusedVariables false
set_option linter.unusedSimpArgs false
namespace Go.Proofs.YtjnafjgonoficaaGreatDoor
open Go.RowKit Go.Proofs.YtjnafjgonoficaaGreatDoorW.PrintWords
theorem runL_at (s:ByteArray) (a i:Nat) (h:i < s.size):Lx.runL s a i =
    if Lx.B s i=10∧¬ (Lx.B s (i - 1)=92 ∨ a + 2 ≤ i∧Lx.B s (i - 1)=13∧Lx.B s (i - 2)=92) then Lx.lineCut s a i else Lx.runL s a (i + 1):=by
  conv=>lhs;unfold Lx.runL
  rw [dif_pos h]
set_option maxHeartbeats 1000000 in
theorem liner_calls (s:ByteArray) (a:Nat) (w:World) (hs:s.size ≤ 1000000) (ha:a < s.size) (h35:Lx.B s a=35) :
    Calls Tryz.prog 122 #[.string s,.int .i64 a] w fun e w'=>e=.returned (.int .i64 (Lx.runL s a a:Nat))∧w=w':=by
  have H35:=mkA h35
  clear h35
  go_enter Tryz.func122,Tryz.ntmps122
  go_wp2_with fail
  go_loopg [5] (s.size - a) (fun kq v5 w' => ∃ (n:Nat),v5=.int .i64 n∧Aside0 (n ≤ s.size∧a ≤ n∧Lx.runL s a n=Lx.runL s a a∧kq=s.size - n)∧w'=w)
  case atStart=>exact ⟨a,by go_num,⟨by omega,by omega,rfl,rfl⟩,rfl⟩
  case round =>
    obtain ⟨n,rfl,HA,rfl⟩:=hrel
    have hn:=HA.out.1
    have hn1:=HA.out.2.1
    by_cases hl:n < s.size
    · have hld:decide ((n:Int) < s.size)=true:=by simpa using hl
      have hx:=runL_at s a n hl
      have hgx:=B_get s n hl
      cases h1:(Lx.B s n == 10)
      · have h1':=beq_eq_false_iff_ne.mp h1
        rw [if_neg (fun hh=>h1' hh.1)] at hx
        clear h1'
        have X:=mkA hx
        clear hx
        go_wp2_with fail
        go_roundg (s.size - (n + 1))
        case measure=>have:=HA.out;omega
        case rel=>exact ⟨n + 1,by go_num,⟨by omega,by omega,by rw [← X.out];exact HA.out.2.2.1,rfl⟩,rfl⟩
      · have h1':=beq_iff_eq.mp h1
        have hna:n ≠ a:=fun e=>by rw [e,H35.out] at h1';revert h1';decide
        obtain ⟨p,hp⟩:∃ p:Nat,p=n - 1:=⟨_,rfl⟩
        have hw1:IntKind.i64.wrap ((n:Int) - 1)=(p:Int):=by rw [IntWalk.i64_in _ (by omega)];omega
        have hpl:p < s.size:=by omega
        have hgp:=B_get s p hpl
        rw [← hp] at hx
        have HP:=mkA hp
        clear hp
        cases h2:(Lx.B s p == 92)
        · have h2':=beq_eq_false_iff_ne.mp h2
          have hw2:IntKind.i64.wrap ((n:Int) - 2)=(n:Int) - 2:=IntWalk.i64_in _ (by omega)
          cases h3:decide ((a:Int) ≤ (n:Int) - 2)
          · have h3':¬ a + 2 ≤ n:=by have:=of_decide_eq_false h3;omega
            rw [if_pos ⟨h1',by intro hh;rcases hh with hh | hh;exact h2' hh;exact h3' hh.1⟩] at hx
            clear h1' h2' h3'
            have X0:=mkA hx
            clear hx
            cases h8:decide (a < p)
            · have h8':¬ a < p:=of_decide_eq_false h8
              have Y:Aside0 (Lx.runL s a n=n):=⟨by rw [X0.out];unfold Lx.lineCut;rw [if_neg (by have:=HP.out;omega)]⟩
              go_wp2_with fail
              go_ret
              exact ⟨by rw [← HA.out.2.2.1,Y.out];simp,rfl⟩
            · have h8':a < p:=of_decide_eq_true h8
              cases h9:(Lx.B s p == 13)
              · have h9':=beq_eq_false_iff_ne.mp h9
                have A9:=mkA h9'
                clear h9'
                have Y:Aside0 (Lx.runL s a n=n):=⟨by rw [X0.out];unfold Lx.lineCut;rw [if_neg (by rw [← HP.out];exact fun hh=>A9.out hh.2)]⟩
                go_wp2_with fail
                go_ret
                exact ⟨by rw [← HA.out.2.2.1,Y.out];simp,rfl⟩
              · have h9':=beq_iff_eq.mp h9
                have Y:Aside0 (Lx.runL s a n=p):=⟨by rw [X0.out];unfold Lx.lineCut;rw [if_pos ⟨by have:=HP.out;omega,by rw [← HP.out];exact h9'⟩,← HP.out]⟩
                clear h9'
                go_wp2_with fail
                go_ret
                exact ⟨by rw [← HA.out.2.2.1,Y.out];simp,rfl⟩
          · have h3':a + 2 ≤ n:=by have:=of_decide_eq_true h3;omega
            cases h4:(Lx.B s p == 13)
            · have h4':=beq_eq_false_iff_ne.mp h4
              rw [if_pos ⟨h1',by intro hh;rcases hh with hh | hh;exact h2' hh;exact h4' hh.2.1⟩] at hx
              clear h1' h2' h3' h4'
              have X0:=mkA hx
              clear hx
              have A9:=mkA (beq_eq_false_iff_ne.mp h4)
              cases h8:decide (a < p)
              · have Y:Aside0 (Lx.runL s a n=n):=⟨by rw [X0.out];unfold Lx.lineCut;rw [if_neg (by rw [← HP.out];exact fun hh=>A9.out hh.2)]⟩
                go_wp2_with fail
                go_ret
                exact ⟨by rw [← HA.out.2.2.1,Y.out];simp,rfl⟩
              · have Y:Aside0 (Lx.runL s a n=n):=⟨by rw [X0.out];unfold Lx.lineCut;rw [if_neg (by rw [← HP.out];exact fun hh=>A9.out hh.2)]⟩
                go_wp2_with fail
                go_ret
                exact ⟨by rw [← HA.out.2.2.1,Y.out];simp,rfl⟩
            · have h4':=beq_iff_eq.mp h4
              obtain ⟨q,hq⟩:∃ q:Nat,q=n - 2:=⟨_,rfl⟩
              have hw3:IntKind.i64.wrap ((n:Int) - 2)=(q:Int):=by rw [IntWalk.i64_in _ (by omega)];omega
              have h3q:decide (a ≤ q)=true:=by simp;omega
              have hql:q < s.size:=by omega
              have hgq:=B_get s q hql
              rw [← hq] at hx
              have HQ:=mkA hq
              clear hq h3 hw2
              cases h5:(Lx.B s q == 92)
              · have h5':=beq_eq_false_iff_ne.mp h5
                have h8:decide (a < p)=true:=by have h1:=HP.out;have h2:=HQ.out;rw [decide_eq_true_eq];omega
                rw [if_pos ⟨h1',by intro hh;rcases hh with hh | hh;exact h2' hh;exact h5' hh.2.2⟩] at hx
                clear h1' h2' h3' h4' h5'
                have X0:=mkA hx
                clear hx
                have Y:Aside0 (Lx.runL s a n=p):=⟨by rw [X0.out];unfold Lx.lineCut;rw [if_pos ⟨by have:=HP.out;have:=of_decide_eq_true h8;omega,by rw [← HP.out];exact beq_iff_eq.mp h4⟩,← HP.out]⟩
                go_wp2_with fail
                go_ret
                exact ⟨by rw [← HA.out.2.2.1,Y.out];simp,rfl⟩
              · have h5':=beq_iff_eq.mp h5
                rw [if_neg (fun hh=>hh.2 (.inr ⟨h3',h4',h5'⟩))] at hx
                clear h1' h2' h3' h4' h5'
                have X:=mkA hx
                clear hx
                go_wp2_with fail
                go_roundg (s.size - (n + 1))
                case measure=>have:=HA.out;omega
                case rel=>exact ⟨n + 1,by go_num,⟨by omega,by omega,by rw [← X.out];exact HA.out.2.2.1,rfl⟩,rfl⟩
        · have h2':=beq_iff_eq.mp h2
          rw [if_neg (fun hh=>hh.2 (.inl h2'))] at hx
          clear h1' h2'
          have X:=mkA hx
          clear hx
          go_wp2_with fail
          go_roundg (s.size - (n + 1))
          case measure=>have:=HA.out;omega
          case rel=>exact ⟨n + 1,by go_num,⟨by omega,by omega,by rw [← X.out];exact HA.out.2.2.1,rfl⟩,rfl⟩
    · have hld:decide ((n:Int) < s.size)=false:=by simpa using Nat.le_of_not_lt hl
      have X:Aside0 (Lx.runL s a n=n):=⟨by unfold Lx.runL;rw [dif_neg hl]⟩
      go_wp2_with fail
      go_ret
      exact ⟨by rw [← HA.out.2.2.1,X.out];simp,rfl⟩
theorem runQ_at (s:ByteArray) (m:Int) (a i:Nat) (h:i < s.size):Lx.runQ s m a i =
    if Lx.B s i=m then i + 1 else if Lx.B s i=10 then a else if Lx.B s i=92 then (if Lx.B s (i + 1)=10 then a else Lx.runQ s m a (i + 2)) else Lx.runQ s m a (i + 1):=by
  conv=>lhs;unfold Lx.runQ
  rw [dif_pos h]
theorem runQ_no (s:ByteArray) (m:Int) (a i:Nat) (h:¬ i < s.size):Lx.runQ s m a i=a:=by
  unfold Lx.runQ
  rw [dif_neg h]
theorem quotedr_calls (s:ByteArray) (a:Nat) (w:World) (hs:s.size ≤ 1000000) (ha:a < s.size) (hm:Lx.B s a=39 ∨ Lx.B s a=34) :
    Calls Tryz.prog 127 #[.string s,.int .i64 a] w fun e w'=>e=.returned (.int .i64 (Lx.quoteEnd s (Lx.B s a) a:Nat))∧Drawn0 w w':=by
  have E:Aside0 (Lx.quoteEnd s (Lx.B s a) a=Lx.runQ s (Lx.B s a) a (a + 1)):=⟨by unfold Lx.quoteEnd;rw [if_pos rfl]⟩
  have hga:=B_get s a ha
  have hm10:Aside0 (Lx.B s a ≠ 10∧Lx.B s a ≠ 92):=⟨by omega⟩
  clear hm
  go_enter Tryz.func127,Tryz.ntmps127
  go_wp2_with fail
  go_loopg [5] (s.size + 1 - (a + 1)) (fun kq v5 w' => ∃ (n:Nat),v5=.int .i64 n∧Aside0 (n ≤ s.size + 1∧a < n∧Lx.runQ s (Lx.B s a) a n=Lx.runQ s (Lx.B s a) a (a + 1)∧kq=s.size + 1 - n)∧Drawn0 w w')
  case atStart=>exact ⟨a + 1,by go_num,⟨by omega,by omega,rfl,rfl⟩,(by repeat (first | exact Drawn0.refl _ | assumption | apply Drawn0.step))⟩
  case round =>
    obtain ⟨n,rfl,HA,⟨m,rfl⟩⟩:=hrel
    have hn:=HA.out.1
    have hn1:=HA.out.2.1
    by_cases hl:n < s.size
    · have hld:decide ((n:Int) < s.size)=true:=by simpa using hl
      have hx:=runQ_at s (Lx.B s a) a n hl
      have hgx:=B_get s n hl
      have hwn:IntKind.i64.wrap ((n:Int) + 1)=((n + 1:Nat):Int):=by rw [IntWalk.i64_in _ (by omega)];omega
      cases h1:(Lx.B s n != 10)
      · have h1':=bne_eq_false_iff_eq.mp h1
        rw [if_neg (by rw [h1'];exact fun hh=>hm10.out.1 hh.symm),if_pos h1'] at hx
        have X:=mkA hx
        clear hx h1'
        go_wp2_with fail
        go_ret
        exact ⟨by rw [E.out,← HA.out.2.2.1,X.out];simp,(by repeat (first | exact Drawn0.refl _ | assumption | apply Drawn0.step))⟩
      · have h1':=bne_iff_ne.mp h1
        cases h2:(Lx.B s n == Lx.B s a)
        · have h2':=beq_eq_false_iff_ne.mp h2
          rw [if_neg h2',if_neg h1'] at hx
          clear h2' h1'
          cases h3:(Lx.B s n == 92)
          · rw [if_neg (beq_eq_false_iff_ne.mp h3)] at hx
            have X:=mkA hx
            clear hx
            go_wp2
            go_quiet (fail)
            go_wp2_with fail
            go_roundg (s.size + 1 - (n + 1))
            case measure=>have:=HA.out;omega
            case rel=>exact ⟨n + 1,by go_num,⟨by omega,by omega,by rw [← X.out];exact HA.out.2.2.1,rfl⟩,(by repeat (first | exact Drawn0.refl _ | assumption | apply Drawn0.step))⟩
          · rw [if_pos (beq_iff_eq.mp h3)] at hx
            by_cases hl2:n + 1 < s.size
            · have hld2:decide ((n:Int) + 1 < s.size)=true:=by rw [decide_eq_true_eq];omega
              obtain ⟨p,hp⟩:∃ p:Nat,p=n + 1:=⟨_,rfl⟩
              rw [← hp] at hx hl2 hwn
              have hgp:=B_get s p hl2
              have hld3:decide ((p:Int) < s.size)=true:=by rw [decide_eq_true_eq];omega
              have HP:=mkA hp
              clear hp hld2
              cases h4:(Lx.B s p == 10)
              · rw [if_neg (beq_eq_false_iff_ne.mp h4)] at hx
                have X:=mkA hx
                clear hx
                go_wp2
                go_quiet (fail)
                go_wp2_with fail
                go_roundg (s.size + 1 - (n + 2))
                case measure=>have:=HA.out;omega
                case rel=>exact ⟨n + 2,by have:=HP.out;congr 1;omega,⟨by have:=HP.out;omega,by omega,by rw [← X.out];exact HA.out.2.2.1,rfl⟩,(by repeat (first | exact Drawn0.refl _ | assumption | apply Drawn0.step))⟩
              · rw [if_pos (beq_iff_eq.mp h4)] at hx
                have X:=mkA hx
                clear hx
                go_wp2
                go_quiet (fail)
                go_wp2_with fail
                go_ret
                exact ⟨by rw [E.out,← HA.out.2.2.1,X.out];simp,(by repeat (first | exact Drawn0.refl _ | assumption | apply Drawn0.step))⟩
            · have hld2:decide (((n + 1:Nat):Int) < s.size)=false:=by rw [decide_eq_false_iff_not];omega
              have hB0:=Lx.B_ge (s:=s) (i:=n + 1) (by omega)
              rw [if_neg (by rw [hB0];decide)] at hx
              have X:=mkA hx
              clear hx hB0
              go_wp2
              go_quiet (fail)
              go_wp2_with fail
              go_roundg (s.size + 1 - (n + 2))
              case measure=>have:=HA.out;omega
              case rel=>exact ⟨n + 2,by go_num,⟨by omega,by omega,by rw [← X.out];exact HA.out.2.2.1,rfl⟩,(by repeat (first | exact Drawn0.refl _ | assumption | apply Drawn0.step))⟩
        · have h2':=beq_iff_eq.mp h2
          rw [if_pos h2'] at hx
          have X:=mkA hx
          clear hx h2' h1'
          go_wp2
          go_quiet (fail)
          go_wp2_with fail
          go_ret
          exact ⟨by rw [E.out,← HA.out.2.2.1,X.out];simp,(by repeat (first | exact Drawn0.refl _ | assumption | apply Drawn0.step))⟩
    · have hld:decide ((n:Int) < s.size)=false:=by simpa using Nat.le_of_not_lt hl
      have X:=mkA (runQ_no s (Lx.B s a) a n hl)
      go_wp2_with fail
      go_ret
      exact ⟨by rw [E.out,← HA.out.2.2.1,X.out];simp,(by repeat (first | exact Drawn0.refl _ | assumption | apply Drawn0.step))⟩
theorem name_calls (b:Nat) (s:ByteArray) (a:Nat) (km sg:Value) (cl:Bool) (w:World) (hb:Sc w b s a km sg cl) (hs:s.size ≤ 1000000) (ha:a ≤ s.size) :
    Calls Tryz.prog 132 #[.pointer (some ⟨b,0,none⟩)] w fun e w'=>e=.returned (.int .i64 ((Lx.nameEnd s a - a:Nat):Int))∧Drawn0 w w':=by
  by_cases hl:Lx.isL (Lx.B s a)=true
  · have E:Aside0 (Lx.nameEnd s a=Lx.runW s a):=⟨by unfold Lx.nameEnd;rw [if_pos hl]⟩
    have hl0:Lx.isL (Lx.B s (a + (0:Int).toNat))=true:=hl
    go_enter Tryz.func132,Tryz.ntmps132
    go_wp2_with (first | (go_at_call 157;(with_reducible refine (next_calls b s a (0) km sg cl _ ?_ hs (by omega) (by omega) (by omega)).mono ?_);exact hb;rintro e w' ⟨rfl,⟨nd,rfl⟩⟩) | (go_at_call 163;(with_reducible refine (isLetter_calls _ _).mono ?_);rintro e w' ⟨rfl,rfl⟩))
    go_loopg [3] (s.size - a) (fun kq v3 w' => ∃ n:Nat,v3=.int .i64 n∧Aside0 (a + n ≤ s.size∧Lx.runW s (a + n)=Lx.runW s a∧kq=s.size - (a + n))∧Drawn0 w w')
    case atStart=>exact ⟨0,rfl,⟨ha,rfl,by omega⟩,(by repeat (first | exact Drawn0.refl _ | assumption | apply Drawn0.step))⟩
    case round =>
      clear hl hl0
      obtain ⟨n,rfl,HA,⟨m,rfl⟩⟩:=hrel
      have hn:=HA.out.1
      have hx:Aside0 (Lx.runW s (a + n)=if (Lx.isL (Lx.B s (a + n)) || Lx.isD (Lx.B s (a + n)))=true then Lx.runW s (a + n + 1) else a + n):=⟨by
        conv=>lhs;unfold Lx.runW
        split
        · rfl
        · rw [Lx.B_ge (by omega)];rfl⟩
      by_cases h1:Lx.isL (Lx.B s (a + n))=true
      · have hlt:=Lx.B_lt_of_ne (s:=s) (i:=a + n) (fun e=>by rw [e] at h1;revert h1;decide)
        have hx':=hx.out
        rw [h1,Bool.true_or,if_pos rfl] at hx'
        have hx1:=mkA hx'
        clear hx hx'
        go_wp2_with (first | (go_at_call 157;(with_reducible refine (next_calls b s a ((n:Int)) km sg cl _ ?_ hs (by omega) (by omega) (by omega)).mono ?_);exact hb;rintro e w' ⟨rfl,⟨nd,rfl⟩⟩) | (go_at_call 163;(with_reducible refine (isLetter_calls _ _).mono ?_);rintro e w' ⟨rfl,rfl⟩) | (go_at_call 164;(with_reducible refine (isDigit_calls _ _).mono ?_);rintro e w' ⟨rfl,rfl⟩))
        go_roundg (s.size - (a + (n + 1)))
        case measure=>have:=HA.out;omega
        case rel=>exact ⟨n + 1,by go_num,⟨by omega,by rw [← HA.out.2.1,hx1.out];rfl,rfl⟩,(by repeat (first | exact Drawn0.refl _ | assumption | apply Drawn0.step))⟩
      · have h1':=Bool.eq_false_iff.mpr h1
        clear h1
        by_cases h2:Lx.isD (Lx.B s (a + n))=true
        · have hlt:=Lx.B_lt_of_ne (s:=s) (i:=a + n) (fun e=>by rw [e] at h2;revert h2;decide)
          have hx':=hx.out
          rw [h2,Bool.or_true,if_pos rfl] at hx'
          have hx1:=mkA hx'
          clear hx hx'
          go_wp2_with (first | (go_at_call 157;(with_reducible refine (next_calls b s a ((n:Int)) km sg cl _ ?_ hs (by omega) (by omega) (by omega)).mono ?_);exact hb;rintro e w' ⟨rfl,⟨nd,rfl⟩⟩) | (go_at_call 163;(with_reducible refine (isLetter_calls _ _).mono ?_);rintro e w' ⟨rfl,rfl⟩) | (go_at_call 164;(with_reducible refine (isDigit_calls _ _).mono ?_);rintro e w' ⟨rfl,rfl⟩))
          go_roundg (s.size - (a + (n + 1)))
          case measure=>have:=HA.out;omega
          case rel=>exact ⟨n + 1,by go_num,⟨by omega,by rw [← HA.out.2.1,hx1.out];rfl,rfl⟩,(by repeat (first | exact Drawn0.refl _ | assumption | apply Drawn0.step))⟩
        · have h2':=Bool.eq_false_iff.mpr h2
          clear h2
          have hx':=hx.out
          rw [h1',h2',Bool.or_self,if_neg Bool.false_ne_true] at hx'
          have hx1:=mkA hx'
          clear hx hx'
          go_wp2_with (first | (go_at_call 157;(with_reducible refine (next_calls b s a ((n:Int)) km sg cl _ ?_ hs (by omega) (by omega) (by omega)).mono ?_);exact hb;rintro e w' ⟨rfl,⟨nd,rfl⟩⟩) | (go_at_call 163;(with_reducible refine (isLetter_calls _ _).mono ?_);rintro e w' ⟨rfl,rfl⟩) | (go_at_call 164;(with_reducible refine (isDigit_calls _ _).mono ?_);rintro e w' ⟨rfl,rfl⟩))
          go_ret
          exact ⟨by rw [E.out,← HA.out.2.1,hx1.out];simp,(by repeat (first | exact Drawn0.refl _ | assumption | apply Drawn0.step))⟩
  · have hl':=Bool.eq_false_iff.mpr hl
    have E:Aside0 (Lx.nameEnd s a=a):=⟨by unfold Lx.nameEnd;rw [if_neg hl]⟩
    have hl0:Lx.isL (Lx.B s (a + (0:Int).toNat))=false:=hl'
    clear hl
    go_enter Tryz.func132,Tryz.ntmps132
    go_wp2_with (first | (go_at_call 157;(with_reducible refine (next_calls b s a (0) km sg cl _ ?_ hs (by omega) (by omega) (by omega)).mono ?_);exact hb;rintro e w' ⟨rfl,⟨nd,rfl⟩⟩) | (go_at_call 163;(with_reducible refine (isLetter_calls _ _).mono ?_);rintro e w' ⟨rfl,rfl⟩))
    go_ret
    exact ⟨by rw [E.out];simp,(by repeat (first | exact Drawn0.refl _ | assumption | apply Drawn0.step))⟩
def contN (c l:Int):Bool:=Lx.isL c || Lx.isD c || decide (c=46) || (decide (c=43 ∨ c=45) && decide (l=101 ∨ l=69))
theorem runN_eq (s:ByteArray) (i:Nat):Lx.runN s i=if contN (Lx.B s i) (Lx.B s (i - 1))=true then Lx.runN s (i + 1) else i:=by
  conv=>lhs;unfold Lx.runN
  split
  · rfl
  · rw [Lx.B_ge (by omega)];rfl
theorem number_yes (b:Nat) (s:ByteArray) (a:Nat) (km sg:Value) (cl:Bool) (w:World) (hb:Sc w b s a km sg cl) (hs:s.size ≤ 1000000) (ha:a ≤ s.size)
    (h01:(Lx.isD (Lx.B s a) || (decide (Lx.B s a=46) && Lx.isD (Lx.B s (a + 1))))=true) :
    Calls Tryz.prog 133 #[.pointer (some ⟨b,0,none⟩)] w fun e w'=>e=.returned (.int .i64 ((Lx.numEnd s a - a:Nat):Int))∧Drawn0 w w':=by
  have E:Aside0 (Lx.numEnd s a=Lx.runN s (a + 1)):=⟨by unfold Lx.numEnd;rw [if_pos h01]⟩
  have hlt0:a < s.size:=Lx.B_lt_of_ne (fun e=>by rw [e] at h01;revert h01;simp [show Lx.isD 0=false from rfl])
  have F:Aside0 (Lx.isD (Lx.B s a)=true ∨ Lx.isD (Lx.B s a)=false∧(Lx.B s a != 46)=false∧Lx.isD (Lx.B s (a + 1))=true):=⟨by
    cases h:Lx.isD (Lx.B s a)
    · rw [h,Bool.false_or,Bool.and_eq_true,decide_eq_true_eq] at h01
      exact .inr ⟨rfl,by simp [h01.1],h01.2⟩
    · exact .inl rfl⟩
  clear h01
  rcases F.out with h | ⟨h,h2,h3⟩
  all_goals
    clear F
    go_enter Tryz.func133,Tryz.ntmps133
    go_wp2_with (first | (go_at_call 157;(with_reducible refine (next_calls b s a (0) km sg cl _ ?_ hs (by omega) (by omega) (by omega)).mono ?_);exact hb;rintro e w' ⟨rfl,⟨nd,rfl⟩⟩) | (go_at_call 157;(with_reducible refine (next_calls b s a (1) km sg cl _ ?_ hs (by omega) (by omega) (by omega)).mono ?_);exact hb;rintro e w' ⟨rfl,⟨nd,rfl⟩⟩) | (go_at_call 163;(with_reducible refine (isLetter_calls _ _).mono ?_);rintro e w' ⟨rfl,rfl⟩) | (go_at_call 164;(with_reducible refine (isDigit_calls _ _).mono ?_);rintro e w' ⟨rfl,rfl⟩))
    go_loopg [3] (s.size - (a + 1)) (fun kq v3 w' => ∃ n:Nat,v3=.int .i64 n∧Aside0 (1 ≤ n∧a + n ≤ s.size∧Lx.runN s (a + n)=Lx.runN s (a + 1)∧kq=s.size - (a + n))∧Drawn0 w w')
    case atStart=>exact ⟨1,rfl,⟨by omega,by omega,rfl,by omega⟩,(by repeat (first | exact Drawn0.refl _ | assumption | apply Drawn0.step))⟩
    case round =>
      first | clear h h2 h3 | clear h
      obtain ⟨n,rfl,HA,⟨m,rfl⟩⟩:=hrel
      have hn:=HA.out.2.1
      have hn1:=HA.out.1
      have hm1:((n:Int) - 1).toNat=n - 1:=by omega
      have hm2:a + (n - 1)=a + n - 1:=by omega
      cases h1:Lx.isL (Lx.B s (a + n))
      · cases h2:Lx.isD (Lx.B s (a + n))
        · cases h3:(Lx.B s (a + n) != 46)
          · have h3':=bne_eq_false_iff_eq.mp h3
            have A0:=mkA h3';clear h3'
            have hc:contN (Lx.B s (a + n)) (Lx.B s (a + n - 1))=true:=by unfold contN;simp [A0.out,show Lx.isL 45=false from rfl,show Lx.isD 45=false from rfl,show Lx.isL 43=false from rfl,show Lx.isD 43=false from rfl]
            have hlt:a + n < s.size:=by
              rcases Nat.lt_or_ge (a + n) s.size with h | h
              · exact h
              · exfalso;rw [Lx.B_ge h] at hc;revert hc;unfold contN;simp [show Lx.isL 0=false from rfl,show Lx.isD 0=false from rfl]
            have hx':=runN_eq s (a + n)
            rw [hc,if_pos rfl] at hx'
            have hx1:=mkA hx'
            clear hx' hc
            go_wp2_with (first | (go_at_call 157;(with_reducible refine (next_calls b s a (0) km sg cl _ ?_ hs (by omega) (by omega) (by omega)).mono ?_);exact hb;rintro e w' ⟨rfl,⟨nd,rfl⟩⟩) | (go_at_call 157;(with_reducible refine (next_calls b s a (1) km sg cl _ ?_ hs (by omega) (by omega) (by omega)).mono ?_);exact hb;rintro e w' ⟨rfl,⟨nd,rfl⟩⟩) | (go_at_call 157;(with_reducible refine (next_calls b s a ((n:Int)) km sg cl _ ?_ hs (by omega) (by omega) (by omega)).mono ?_);exact hb;rintro e w' ⟨rfl,⟨nd,rfl⟩⟩) | (go_at_call 157;(with_reducible refine (next_calls b s a ((n:Int) - 1) km sg cl _ ?_ hs (by omega) (by omega) (by omega)).mono ?_);exact hb;rintro e w' ⟨rfl,⟨nd,rfl⟩⟩) | (go_at_call 163;(with_reducible refine (isLetter_calls _ _).mono ?_);rintro e w' ⟨rfl,rfl⟩) | (go_at_call 164;(with_reducible refine (isDigit_calls _ _).mono ?_);rintro e w' ⟨rfl,rfl⟩))
            go_roundg (s.size - (a + (n + 1)))
            case measure=>have:=HA.out;omega
            case rel=>exact ⟨n + 1,by go_num,⟨by omega,by omega,by rw [← HA.out.2.2.1,hx1.out];rfl,rfl⟩,(by repeat (first | exact Drawn0.refl _ | assumption | apply Drawn0.step))⟩
          · have h3':=bne_iff_ne.mp h3
            have A0:=mkA h3';clear h3'
            cases h4:(Lx.B s (a + n) == 43)
            · have h4':=beq_eq_false_iff_ne.mp h4
              have A1:=mkA h4';clear h4'
              cases h5:(Lx.B s (a + n) == 45)
              · have h5':=beq_eq_false_iff_ne.mp h5
                have A2:=mkA h5';clear h5'
                have hc:contN (Lx.B s (a + n)) (Lx.B s (a + n - 1))=false:=by unfold contN;simp [h1,h2,A0.out,A1.out,A2.out,show Lx.isL 45=false from rfl,show Lx.isD 45=false from rfl,show Lx.isL 43=false from rfl,show Lx.isD 43=false from rfl]
                have hx':=runN_eq s (a + n)
                rw [hc,if_neg Bool.false_ne_true] at hx'
                have hx1:=mkA hx'
                clear hx' hc
                go_wp2_with (first | (go_at_call 157;(with_reducible refine (next_calls b s a (0) km sg cl _ ?_ hs (by omega) (by omega) (by omega)).mono ?_);exact hb;rintro e w' ⟨rfl,⟨nd,rfl⟩⟩) | (go_at_call 157;(with_reducible refine (next_calls b s a (1) km sg cl _ ?_ hs (by omega) (by omega) (by omega)).mono ?_);exact hb;rintro e w' ⟨rfl,⟨nd,rfl⟩⟩) | (go_at_call 157;(with_reducible refine (next_calls b s a ((n:Int)) km sg cl _ ?_ hs (by omega) (by omega) (by omega)).mono ?_);exact hb;rintro e w' ⟨rfl,⟨nd,rfl⟩⟩) | (go_at_call 157;(with_reducible refine (next_calls b s a ((n:Int) - 1) km sg cl _ ?_ hs (by omega) (by omega) (by omega)).mono ?_);exact hb;rintro e w' ⟨rfl,⟨nd,rfl⟩⟩) | (go_at_call 163;(with_reducible refine (isLetter_calls _ _).mono ?_);rintro e w' ⟨rfl,rfl⟩) | (go_at_call 164;(with_reducible refine (isDigit_calls _ _).mono ?_);rintro e w' ⟨rfl,rfl⟩))
                go_ret
                exact ⟨by rw [E.out,← HA.out.2.2.1,hx1.out];simp,(by repeat (first | exact Drawn0.refl _ | assumption | apply Drawn0.step))⟩
              · have h5':=beq_iff_eq.mp h5
                have A2:=mkA h5';clear h5'
                cases h6:(Lx.B s (a + n - 1) == 101)
                · cases h7:(Lx.B s (a + n - 1) == 69)
                  · have h6':=beq_eq_false_iff_ne.mp h6;have h7':=beq_eq_false_iff_ne.mp h7
                    have A:=mkA (And.intro h6' h7');clear h6' h7'
                    have hc:contN (Lx.B s (a + n)) (Lx.B s (a + n - 1))=false:=by unfold contN;simp [h1,h2,A0.out,A1.out,A2.out,A.out.1,A.out.2,show Lx.isL 45=false from rfl,show Lx.isD 45=false from rfl,show Lx.isL 43=false from rfl,show Lx.isD 43=false from rfl]
                    have hx':=runN_eq s (a + n)
                    rw [hc,if_neg Bool.false_ne_true] at hx'
                    have hx1:=mkA hx'
                    clear hx' hc
                    go_wp2_with (first | (go_at_call 157;(with_reducible refine (next_calls b s a (0) km sg cl _ ?_ hs (by omega) (by omega) (by omega)).mono ?_);exact hb;rintro e w' ⟨rfl,⟨nd,rfl⟩⟩) | (go_at_call 157;(with_reducible refine (next_calls b s a (1) km sg cl _ ?_ hs (by omega) (by omega) (by omega)).mono ?_);exact hb;rintro e w' ⟨rfl,⟨nd,rfl⟩⟩) | (go_at_call 157;(with_reducible refine (next_calls b s a ((n:Int)) km sg cl _ ?_ hs (by omega) (by omega) (by omega)).mono ?_);exact hb;rintro e w' ⟨rfl,⟨nd,rfl⟩⟩) | (go_at_call 157;(with_reducible refine (next_calls b s a ((n:Int) - 1) km sg cl _ ?_ hs (by omega) (by omega) (by omega)).mono ?_);exact hb;rintro e w' ⟨rfl,⟨nd,rfl⟩⟩) | (go_at_call 163;(with_reducible refine (isLetter_calls _ _).mono ?_);rintro e w' ⟨rfl,rfl⟩) | (go_at_call 164;(with_reducible refine (isDigit_calls _ _).mono ?_);rintro e w' ⟨rfl,rfl⟩))
                    go_ret
                    exact ⟨by rw [E.out,← HA.out.2.2.1,hx1.out];simp,(by repeat (first | exact Drawn0.refl _ | assumption | apply Drawn0.step))⟩
                  · have h7':=beq_iff_eq.mp h7
                    have A:=mkA h7';clear h7'
                    have hc:contN (Lx.B s (a + n)) (Lx.B s (a + n - 1))=true:=by unfold contN;simp [h1,h2,A0.out,A1.out,A2.out,A.out,show Lx.isL 45=false from rfl,show Lx.isD 45=false from rfl,show Lx.isL 43=false from rfl,show Lx.isD 43=false from rfl]
                    have hlt:a + n < s.size:=by
                      rcases Nat.lt_or_ge (a + n) s.size with h | h
                      · exact h
                      · exfalso;rw [Lx.B_ge h] at hc;revert hc;unfold contN;simp [show Lx.isL 0=false from rfl,show Lx.isD 0=false from rfl]
                    have hx':=runN_eq s (a + n)
                    rw [hc,if_pos rfl] at hx'
                    have hx1:=mkA hx'
                    clear hx' hc
                    go_wp2_with (first | (go_at_call 157;(with_reducible refine (next_calls b s a (0) km sg cl _ ?_ hs (by omega) (by omega) (by omega)).mono ?_);exact hb;rintro e w' ⟨rfl,⟨nd,rfl⟩⟩) | (go_at_call 157;(with_reducible refine (next_calls b s a (1) km sg cl _ ?_ hs (by omega) (by omega) (by omega)).mono ?_);exact hb;rintro e w' ⟨rfl,⟨nd,rfl⟩⟩) | (go_at_call 157;(with_reducible refine (next_calls b s a ((n:Int)) km sg cl _ ?_ hs (by omega) (by omega) (by omega)).mono ?_);exact hb;rintro e w' ⟨rfl,⟨nd,rfl⟩⟩) | (go_at_call 157;(with_reducible refine (next_calls b s a ((n:Int) - 1) km sg cl _ ?_ hs (by omega) (by omega) (by omega)).mono ?_);exact hb;rintro e w' ⟨rfl,⟨nd,rfl⟩⟩) | (go_at_call 163;(with_reducible refine (isLetter_calls _ _).mono ?_);rintro e w' ⟨rfl,rfl⟩) | (go_at_call 164;(with_reducible refine (isDigit_calls _ _).mono ?_);rintro e w' ⟨rfl,rfl⟩))
                    go_roundg (s.size - (a + (n + 1)))
                    case measure=>have:=HA.out;omega
                    case rel=>exact ⟨n + 1,by go_num,⟨by omega,by omega,by rw [← HA.out.2.2.1,hx1.out];rfl,rfl⟩,(by repeat (first | exact Drawn0.refl _ | assumption | apply Drawn0.step))⟩
                · have h6':=beq_iff_eq.mp h6
                  have A:=mkA h6';clear h6'
                  have hc:contN (Lx.B s (a + n)) (Lx.B s (a + n - 1))=true:=by unfold contN;simp [h1,h2,A0.out,A1.out,A2.out,A.out,show Lx.isL 45=false from rfl,show Lx.isD 45=false from rfl,show Lx.isL 43=false from rfl,show Lx.isD 43=false from rfl]
                  have hlt:a + n < s.size:=by
                    rcases Nat.lt_or_ge (a + n) s.size with h | h
                    · exact h
                    · exfalso;rw [Lx.B_ge h] at hc;revert hc;unfold contN;simp [show Lx.isL 0=false from rfl,show Lx.isD 0=false from rfl]
                  have hx':=runN_eq s (a + n)
                  rw [hc,if_pos rfl] at hx'
                  have hx1:=mkA hx'
                  clear hx' hc
                  go_wp2_with (first | (go_at_call 157;(with_reducible refine (next_calls b s a (0) km sg cl _ ?_ hs (by omega) (by omega) (by omega)).mono ?_);exact hb;rintro e w' ⟨rfl,⟨nd,rfl⟩⟩) | (go_at_call 157;(with_reducible refine (next_calls b s a (1) km sg cl _ ?_ hs (by omega) (by omega) (by omega)).mono ?_);exact hb;rintro e w' ⟨rfl,⟨nd,rfl⟩⟩) | (go_at_call 157;(with_reducible refine (next_calls b s a ((n:Int)) km sg cl _ ?_ hs (by omega) (by omega) (by omega)).mono ?_);exact hb;rintro e w' ⟨rfl,⟨nd,rfl⟩⟩) | (go_at_call 157;(with_reducible refine (next_calls b s a ((n:Int) - 1) km sg cl _ ?_ hs (by omega) (by omega) (by omega)).mono ?_);exact hb;rintro e w' ⟨rfl,⟨nd,rfl⟩⟩) | (go_at_call 163;(with_reducible refine (isLetter_calls _ _).mono ?_);rintro e w' ⟨rfl,rfl⟩) | (go_at_call 164;(with_reducible refine (isDigit_calls _ _).mono ?_);rintro e w' ⟨rfl,rfl⟩))
                  go_roundg (s.size - (a + (n + 1)))
                  case measure=>have:=HA.out;omega
                  case rel=>exact ⟨n + 1,by go_num,⟨by omega,by omega,by rw [← HA.out.2.2.1,hx1.out];rfl,rfl⟩,(by repeat (first | exact Drawn0.refl _ | assumption | apply Drawn0.step))⟩
            · have h4':=beq_iff_eq.mp h4
              have A1:=mkA h4';clear h4'
              cases h6:(Lx.B s (a + n - 1) == 101)
              · cases h7:(Lx.B s (a + n - 1) == 69)
                · have h6':=beq_eq_false_iff_ne.mp h6;have h7':=beq_eq_false_iff_ne.mp h7
                  have A:=mkA (And.intro h6' h7');clear h6' h7'
                  have hc:contN (Lx.B s (a + n)) (Lx.B s (a + n - 1))=false:=by unfold contN;simp [h1,h2,A0.out,A1.out,A.out.1,A.out.2,show Lx.isL 45=false from rfl,show Lx.isD 45=false from rfl,show Lx.isL 43=false from rfl,show Lx.isD 43=false from rfl]
                  have hx':=runN_eq s (a + n)
                  rw [hc,if_neg Bool.false_ne_true] at hx'
                  have hx1:=mkA hx'
                  clear hx' hc
                  go_wp2_with (first | (go_at_call 157;(with_reducible refine (next_calls b s a (0) km sg cl _ ?_ hs (by omega) (by omega) (by omega)).mono ?_);exact hb;rintro e w' ⟨rfl,⟨nd,rfl⟩⟩) | (go_at_call 157;(with_reducible refine (next_calls b s a (1) km sg cl _ ?_ hs (by omega) (by omega) (by omega)).mono ?_);exact hb;rintro e w' ⟨rfl,⟨nd,rfl⟩⟩) | (go_at_call 157;(with_reducible refine (next_calls b s a ((n:Int)) km sg cl _ ?_ hs (by omega) (by omega) (by omega)).mono ?_);exact hb;rintro e w' ⟨rfl,⟨nd,rfl⟩⟩) | (go_at_call 157;(with_reducible refine (next_calls b s a ((n:Int) - 1) km sg cl _ ?_ hs (by omega) (by omega) (by omega)).mono ?_);exact hb;rintro e w' ⟨rfl,⟨nd,rfl⟩⟩) | (go_at_call 163;(with_reducible refine (isLetter_calls _ _).mono ?_);rintro e w' ⟨rfl,rfl⟩) | (go_at_call 164;(with_reducible refine (isDigit_calls _ _).mono ?_);rintro e w' ⟨rfl,rfl⟩))
                  go_ret
                  exact ⟨by rw [E.out,← HA.out.2.2.1,hx1.out];simp,(by repeat (first | exact Drawn0.refl _ | assumption | apply Drawn0.step))⟩
                · have h7':=beq_iff_eq.mp h7
                  have A:=mkA h7';clear h7'
                  have hc:contN (Lx.B s (a + n)) (Lx.B s (a + n - 1))=true:=by unfold contN;simp [h1,h2,A0.out,A1.out,A.out,show Lx.isL 45=false from rfl,show Lx.isD 45=false from rfl,show Lx.isL 43=false from rfl,show Lx.isD 43=false from rfl]
                  have hlt:a + n < s.size:=by
                    rcases Nat.lt_or_ge (a + n) s.size with h | h
                    · exact h
                    · exfalso;rw [Lx.B_ge h] at hc;revert hc;unfold contN;simp [show Lx.isL 0=false from rfl,show Lx.isD 0=false from rfl]
                  have hx':=runN_eq s (a + n)
                  rw [hc,if_pos rfl] at hx'
                  have hx1:=mkA hx'
                  clear hx' hc
                  go_wp2_with (first | (go_at_call 157;(with_reducible refine (next_calls b s a (0) km sg cl _ ?_ hs (by omega) (by omega) (by omega)).mono ?_);exact hb;rintro e w' ⟨rfl,⟨nd,rfl⟩⟩) | (go_at_call 157;(with_reducible refine (next_calls b s a (1) km sg cl _ ?_ hs (by omega) (by omega) (by omega)).mono ?_);exact hb;rintro e w' ⟨rfl,⟨nd,rfl⟩⟩) | (go_at_call 157;(with_reducible refine (next_calls b s a ((n:Int)) km sg cl _ ?_ hs (by omega) (by omega) (by omega)).mono ?_);exact hb;rintro e w' ⟨rfl,⟨nd,rfl⟩⟩) | (go_at_call 157;(with_reducible refine (next_calls b s a ((n:Int) - 1) km sg cl _ ?_ hs (by omega) (by omega) (by omega)).mono ?_);exact hb;rintro e w' ⟨rfl,⟨nd,rfl⟩⟩) | (go_at_call 163;(with_reducible refine (isLetter_calls _ _).mono ?_);rintro e w' ⟨rfl,rfl⟩) | (go_at_call 164;(with_reducible refine (isDigit_calls _ _).mono ?_);rintro e w' ⟨rfl,rfl⟩))
                  go_roundg (s.size - (a + (n + 1)))
                  case measure=>have:=HA.out;omega
                  case rel=>exact ⟨n + 1,by go_num,⟨by omega,by omega,by rw [← HA.out.2.2.1,hx1.out];rfl,rfl⟩,(by repeat (first | exact Drawn0.refl _ | assumption | apply Drawn0.step))⟩
              · have h6':=beq_iff_eq.mp h6
                have A:=mkA h6';clear h6'
                have hc:contN (Lx.B s (a + n)) (Lx.B s (a + n - 1))=true:=by unfold contN;simp [h1,h2,A0.out,A1.out,A.out,show Lx.isL 45=false from rfl,show Lx.isD 45=false from rfl,show Lx.isL 43=false from rfl,show Lx.isD 43=false from rfl]
                have hlt:a + n < s.size:=by
                  rcases Nat.lt_or_ge (a + n) s.size with h | h
                  · exact h
                  · exfalso;rw [Lx.B_ge h] at hc;revert hc;unfold contN;simp [show Lx.isL 0=false from rfl,show Lx.isD 0=false from rfl]
                have hx':=runN_eq s (a + n)
                rw [hc,if_pos rfl] at hx'
                have hx1:=mkA hx'
                clear hx' hc
                go_wp2_with (first | (go_at_call 157;(with_reducible refine (next_calls b s a (0) km sg cl _ ?_ hs (by omega) (by omega) (by omega)).mono ?_);exact hb;rintro e w' ⟨rfl,⟨nd,rfl⟩⟩) | (go_at_call 157;(with_reducible refine (next_calls b s a (1) km sg cl _ ?_ hs (by omega) (by omega) (by omega)).mono ?_);exact hb;rintro e w' ⟨rfl,⟨nd,rfl⟩⟩) | (go_at_call 157;(with_reducible refine (next_calls b s a ((n:Int)) km sg cl _ ?_ hs (by omega) (by omega) (by omega)).mono ?_);exact hb;rintro e w' ⟨rfl,⟨nd,rfl⟩⟩) | (go_at_call 157;(with_reducible refine (next_calls b s a ((n:Int) - 1) km sg cl _ ?_ hs (by omega) (by omega) (by omega)).mono ?_);exact hb;rintro e w' ⟨rfl,⟨nd,rfl⟩⟩) | (go_at_call 163;(with_reducible refine (isLetter_calls _ _).mono ?_);rintro e w' ⟨rfl,rfl⟩) | (go_at_call 164;(with_reducible refine (isDigit_calls _ _).mono ?_);rintro e w' ⟨rfl,rfl⟩))
                go_roundg (s.size - (a + (n + 1)))
                case measure=>have:=HA.out;omega
                case rel=>exact ⟨n + 1,by go_num,⟨by omega,by omega,by rw [← HA.out.2.2.1,hx1.out];rfl,rfl⟩,(by repeat (first | exact Drawn0.refl _ | assumption | apply Drawn0.step))⟩
        · have hc:contN (Lx.B s (a + n)) (Lx.B s (a + n - 1))=true:=by unfold contN;simp [h2,show Lx.isL 45=false from rfl,show Lx.isD 45=false from rfl,show Lx.isL 43=false from rfl,show Lx.isD 43=false from rfl]
          have hlt:a + n < s.size:=by
            rcases Nat.lt_or_ge (a + n) s.size with h | h
            · exact h
            · exfalso;rw [Lx.B_ge h] at hc;revert hc;unfold contN;simp [show Lx.isL 0=false from rfl,show Lx.isD 0=false from rfl]
          have hx':=runN_eq s (a + n)
          rw [hc,if_pos rfl] at hx'
          have hx1:=mkA hx'
          clear hx' hc
          go_wp2_with (first | (go_at_call 157;(with_reducible refine (next_calls b s a (0) km sg cl _ ?_ hs (by omega) (by omega) (by omega)).mono ?_);exact hb;rintro e w' ⟨rfl,⟨nd,rfl⟩⟩) | (go_at_call 157;(with_reducible refine (next_calls b s a (1) km sg cl _ ?_ hs (by omega) (by omega) (by omega)).mono ?_);exact hb;rintro e w' ⟨rfl,⟨nd,rfl⟩⟩) | (go_at_call 157;(with_reducible refine (next_calls b s a ((n:Int)) km sg cl _ ?_ hs (by omega) (by omega) (by omega)).mono ?_);exact hb;rintro e w' ⟨rfl,⟨nd,rfl⟩⟩) | (go_at_call 157;(with_reducible refine (next_calls b s a ((n:Int) - 1) km sg cl _ ?_ hs (by omega) (by omega) (by omega)).mono ?_);exact hb;rintro e w' ⟨rfl,⟨nd,rfl⟩⟩) | (go_at_call 163;(with_reducible refine (isLetter_calls _ _).mono ?_);rintro e w' ⟨rfl,rfl⟩) | (go_at_call 164;(with_reducible refine (isDigit_calls _ _).mono ?_);rintro e w' ⟨rfl,rfl⟩))
          go_roundg (s.size - (a + (n + 1)))
          case measure=>have:=HA.out;omega
          case rel=>exact ⟨n + 1,by go_num,⟨by omega,by omega,by rw [← HA.out.2.2.1,hx1.out];rfl,rfl⟩,(by repeat (first | exact Drawn0.refl _ | assumption | apply Drawn0.step))⟩
      · have hc:contN (Lx.B s (a + n)) (Lx.B s (a + n - 1))=true:=by unfold contN;simp [h1,show Lx.isL 45=false from rfl,show Lx.isD 45=false from rfl,show Lx.isL 43=false from rfl,show Lx.isD 43=false from rfl]
        have hlt:a + n < s.size:=by
          rcases Nat.lt_or_ge (a + n) s.size with h | h
          · exact h
          · exfalso;rw [Lx.B_ge h] at hc;revert hc;unfold contN;simp [show Lx.isL 0=false from rfl,show Lx.isD 0=false from rfl]
        have hx':=runN_eq s (a + n)
        rw [hc,if_pos rfl] at hx'
        have hx1:=mkA hx'
        clear hx' hc
        go_wp2_with (first | (go_at_call 157;(with_reducible refine (next_calls b s a (0) km sg cl _ ?_ hs (by omega) (by omega) (by omega)).mono ?_);exact hb;rintro e w' ⟨rfl,⟨nd,rfl⟩⟩) | (go_at_call 157;(with_reducible refine (next_calls b s a (1) km sg cl _ ?_ hs (by omega) (by omega) (by omega)).mono ?_);exact hb;rintro e w' ⟨rfl,⟨nd,rfl⟩⟩) | (go_at_call 157;(with_reducible refine (next_calls b s a ((n:Int)) km sg cl _ ?_ hs (by omega) (by omega) (by omega)).mono ?_);exact hb;rintro e w' ⟨rfl,⟨nd,rfl⟩⟩) | (go_at_call 157;(with_reducible refine (next_calls b s a ((n:Int) - 1) km sg cl _ ?_ hs (by omega) (by omega) (by omega)).mono ?_);exact hb;rintro e w' ⟨rfl,⟨nd,rfl⟩⟩) | (go_at_call 163;(with_reducible refine (isLetter_calls _ _).mono ?_);rintro e w' ⟨rfl,rfl⟩) | (go_at_call 164;(with_reducible refine (isDigit_calls _ _).mono ?_);rintro e w' ⟨rfl,rfl⟩))
        go_roundg (s.size - (a + (n + 1)))
        case measure=>have:=HA.out;omega
        case rel=>exact ⟨n + 1,by go_num,⟨by omega,by omega,by rw [← HA.out.2.2.1,hx1.out];rfl,rfl⟩,(by repeat (first | exact Drawn0.refl _ | assumption | apply Drawn0.step))⟩
theorem number_no (b:Nat) (s:ByteArray) (a:Nat) (km sg:Value) (cl:Bool) (w:World) (hb:Sc w b s a km sg cl) (hs:s.size ≤ 1000000) (ha:a ≤ s.size)
    (h01:(Lx.isD (Lx.B s a) || (decide (Lx.B s a=46) && Lx.isD (Lx.B s (a + 1))))=false) :
    Calls Tryz.prog 133 #[.pointer (some ⟨b,0,none⟩)] w fun e w'=>e=.returned (.int .i64 ((Lx.numEnd s a - a:Nat):Int))∧Drawn0 w w':=by
  have E:Aside0 (Lx.numEnd s a=a):=⟨by unfold Lx.numEnd;rw [if_neg (by rw [h01];decide)]⟩
  rw [Bool.or_eq_false_iff] at h01
  obtain ⟨h,h01⟩:=h01
  cases h2:(Lx.B s a != 46)
  · have h3:Lx.isD (Lx.B s (a + 1))=false:=by
      rw [bne_eq_false_iff_eq.mp h2] at h01;simpa using h01
    clear h01
    go_enter Tryz.func133,Tryz.ntmps133
    go_wp2_with (first | (go_at_call 157;(with_reducible refine (next_calls b s a (0) km sg cl _ ?_ hs (by omega) (by omega) (by omega)).mono ?_);exact hb;rintro e w' ⟨rfl,⟨nd,rfl⟩⟩) | (go_at_call 157;(with_reducible refine (next_calls b s a (1) km sg cl _ ?_ hs (by omega) (by omega) (by omega)).mono ?_);exact hb;rintro e w' ⟨rfl,⟨nd,rfl⟩⟩) | (go_at_call 163;(with_reducible refine (isLetter_calls _ _).mono ?_);rintro e w' ⟨rfl,rfl⟩) | (go_at_call 164;(with_reducible refine (isDigit_calls _ _).mono ?_);rintro e w' ⟨rfl,rfl⟩))
    go_ret
    exact ⟨by rw [E.out];simp,(by repeat (first | exact Drawn0.refl _ | assumption | apply Drawn0.step))⟩
  · clear h01
    go_enter Tryz.func133,Tryz.ntmps133
    go_wp2_with (first | (go_at_call 157;(with_reducible refine (next_calls b s a (0) km sg cl _ ?_ hs (by omega) (by omega) (by omega)).mono ?_);exact hb;rintro e w' ⟨rfl,⟨nd,rfl⟩⟩) | (go_at_call 157;(with_reducible refine (next_calls b s a (1) km sg cl _ ?_ hs (by omega) (by omega) (by omega)).mono ?_);exact hb;rintro e w' ⟨rfl,⟨nd,rfl⟩⟩) | (go_at_call 163;(with_reducible refine (isLetter_calls _ _).mono ?_);rintro e w' ⟨rfl,rfl⟩) | (go_at_call 164;(with_reducible refine (isDigit_calls _ _).mono ?_);rintro e w' ⟨rfl,rfl⟩))
    go_ret
    exact ⟨by rw [E.out];simp,(by repeat (first | exact Drawn0.refl _ | assumption | apply Drawn0.step))⟩
theorem number_calls (b:Nat) (s:ByteArray) (a:Nat) (km sg:Value) (cl:Bool) (w:World) (hb:Sc w b s a km sg cl) (hs:s.size ≤ 1000000) (ha:a ≤ s.size) :
    Calls Tryz.prog 133 #[.pointer (some ⟨b,0,none⟩)] w fun e w'=>e=.returned (.int .i64 ((Lx.numEnd s a - a:Nat):Int))∧Drawn0 w w':=by
  cases h01:(Lx.isD (Lx.B s a) || (decide (Lx.B s a=46) && Lx.isD (Lx.B s (a + 1))))
  · exact number_no b s a km sg cl w hb hs ha h01
  · exact number_yes b s a km sg cl w hb hs ha h01
theorem runQ_eq (s:ByteArray) (m:Int) (a i:Nat) (h:i < s.size):Lx.runQ s m a i =
    if Lx.B s i=m then i + 1 else if Lx.B s i=10 then a else if Lx.B s i=92 then (if Lx.B s (i + 1)=10 then a else Lx.runQ s m a (i + 2)) else Lx.runQ s m a (i + 1):=by
  conv=>lhs;unfold Lx.runQ
  rw [dif_pos h]
theorem runQ_out (s:ByteArray) (m:Int) (a i:Nat) (h:s.size ≤ i):Lx.runQ s m a i=a:=by
  unfold Lx.runQ
  rw [dif_neg (by omega)]
theorem quoted_calls (b:Nat) (s:ByteArray) (a:Nat) (mk:Int) (km sg:Value) (cl:Bool) (w:World) (hb:Sc w b s a km sg cl) (hs:s.size ≤ 1000000) (ha:a < s.size) (hm:mk=39 ∨ mk=34) :
    Calls Tryz.prog 165 #[.pointer (some ⟨b,0,none⟩),.int .u8 mk] w fun e w'=>e=.returned (.int .i64 ((Lx.quoteEnd s mk a - a:Nat):Int))∧Drawn0 w w':=by
  cases h1:(Lx.B s a != mk)
  · have E:Aside0 (Lx.quoteEnd s mk a=Lx.runQ s mk a (a + 1)):=⟨by unfold Lx.quoteEnd;rw [if_pos (bne_eq_false_iff_eq.mp h1)]⟩
    have hm':=mkA hm
    clear hm
    go_enter Tryz.func165,Tryz.ntmps165
    go_wp2_with (first | (go_at_call 157;(with_reducible refine (next_calls b s a (0) km sg cl _ ?_ hs (by omega) (by omega) (by omega)).mono ?_);exact hb;rintro e w' ⟨rfl,⟨nd,rfl⟩⟩) | (go_at_call 157;(with_reducible refine (next_calls b s a ((n:Int)) km sg cl _ ?_ hs (by omega) (by omega) (by omega)).mono ?_);exact hb;rintro e w' ⟨rfl,⟨nd,rfl⟩⟩) | (go_at_call 157;(with_reducible refine (next_calls b s a ((n:Int) + 1) km sg cl _ ?_ hs (by omega) (by omega) (by omega)).mono ?_);exact hb;rintro e w' ⟨rfl,⟨nd,rfl⟩⟩))
    go_loopg [5] (s.size + 1 - (a + 1)) (fun kq v5 w' => ∃ n:Nat,v5=.int .i64 n∧Aside0 (1 ≤ n∧a + n ≤ s.size + 1∧Lx.runQ s mk a (a + n)=Lx.runQ s mk a (a + 1)∧kq=s.size + 1 - (a + n))∧Drawn0 w w')
    case atStart=>exact ⟨1,rfl,⟨by omega,by omega,rfl,by omega⟩,(by repeat (first | exact Drawn0.refl _ | assumption | apply Drawn0.step))⟩
    case round =>
      clear h1
      obtain ⟨n,rfl,HA,⟨m,rfl⟩⟩:=hrel
      have hn:=HA.out.2.1
      have hn1:=HA.out.1
      obtain ⟨c0,c1,-,-,-,-,-⟩:=hb.cells
      have hw:IntKind.i64.wrap ((a:Int) + n)=(a:Int) + n:=IntWalk.i64_in _ (by omega)
      cases hlt:decide ((a:Int) + n < s.size)
      · have hlt':s.size ≤ a + n:=by simp at hlt;omega
        have hx:=mkA (runQ_out s mk a (a + n) hlt')
        go_wp2
        go_quiet (fail)
        clear hw c0 c1
        go_wp2_with (first | (go_at_call 157;(with_reducible refine (next_calls b s a (0) km sg cl _ ?_ hs (by omega) (by omega) (by omega)).mono ?_);exact hb;rintro e w' ⟨rfl,⟨nd,rfl⟩⟩) | (go_at_call 157;(with_reducible refine (next_calls b s a ((n:Int)) km sg cl _ ?_ hs (by omega) (by omega) (by omega)).mono ?_);exact hb;rintro e w' ⟨rfl,⟨nd,rfl⟩⟩) | (go_at_call 157;(with_reducible refine (next_calls b s a ((n:Int) + 1) km sg cl _ ?_ hs (by omega) (by omega) (by omega)).mono ?_);exact hb;rintro e w' ⟨rfl,⟨nd,rfl⟩⟩))
        go_ret
        exact ⟨by rw [E.out,← HA.out.2.2.1,hx.out];simp,(by repeat (first | exact Drawn0.refl _ | assumption | apply Drawn0.step))⟩
      · have hlt':a + n < s.size:=by simp at hlt;omega
        have hx:=runQ_eq s mk a (a + n) hlt'
        cases h2:(Lx.B s (a + n) == mk)
        · have h2':=beq_eq_false_iff_ne.mp h2
          rw [if_neg h2'] at hx
          clear h2'
          cases h3:(Lx.B s (a + n) == 10)
          · have h3':=beq_eq_false_iff_ne.mp h3
            rw [if_neg h3'] at hx
            clear h3'
            cases h4:(Lx.B s (a + n) == 92)
            · have h4':=beq_eq_false_iff_ne.mp h4
              rw [if_neg h4'] at hx
              have hx1:=mkA hx
              clear h4' hx
              go_wp2
              go_quiet (fail)
              clear hw c0 c1
              go_wp2_with (first | (go_at_call 157;(with_reducible refine (next_calls b s a (0) km sg cl _ ?_ hs (by omega) (by omega) (by omega)).mono ?_);exact hb;rintro e w' ⟨rfl,⟨nd,rfl⟩⟩) | (go_at_call 157;(with_reducible refine (next_calls b s a ((n:Int)) km sg cl _ ?_ hs (by omega) (by omega) (by omega)).mono ?_);exact hb;rintro e w' ⟨rfl,⟨nd,rfl⟩⟩) | (go_at_call 157;(with_reducible refine (next_calls b s a ((n:Int) + 1) km sg cl _ ?_ hs (by omega) (by omega) (by omega)).mono ?_);exact hb;rintro e w' ⟨rfl,⟨nd,rfl⟩⟩))
              go_roundg (s.size + 1 - (a + (n + 1)))
              case measure=>have:=HA.out;omega
              case rel=>exact ⟨n + 1,by go_num,⟨by omega,by omega,by rw [← HA.out.2.2.1,hx1.out];rfl,rfl⟩,(by repeat (first | exact Drawn0.refl _ | assumption | apply Drawn0.step))⟩
            · have h4':=beq_iff_eq.mp h4
              rw [if_pos h4'] at hx
              clear h4'
              cases h5:(Lx.B s (a + (n + 1)) == 10)
              · have h5':¬ Lx.B s (a + n + 1)=10:=beq_eq_false_iff_ne.mp h5
                rw [if_neg h5'] at hx
                have hx1:=mkA hx
                clear h5' hx
                go_wp2
                go_quiet (fail)
                clear hw c0 c1
                go_wp2_with (first | (go_at_call 157;(with_reducible refine (next_calls b s a (0) km sg cl _ ?_ hs (by omega) (by omega) (by omega)).mono ?_);exact hb;rintro e w' ⟨rfl,⟨nd,rfl⟩⟩) | (go_at_call 157;(with_reducible refine (next_calls b s a ((n:Int)) km sg cl _ ?_ hs (by omega) (by omega) (by omega)).mono ?_);exact hb;rintro e w' ⟨rfl,⟨nd,rfl⟩⟩) | (go_at_call 157;(with_reducible refine (next_calls b s a ((n:Int) + 1) km sg cl _ ?_ hs (by omega) (by omega) (by omega)).mono ?_);exact hb;rintro e w' ⟨rfl,⟨nd,rfl⟩⟩))
                go_roundg (s.size + 1 - (a + (n + 2)))
                case measure=>have:=HA.out;omega
                case rel=>exact ⟨n + 2,by go_num,⟨by omega,by omega,by rw [← HA.out.2.2.1,hx1.out];rfl,rfl⟩,(by repeat (first | exact Drawn0.refl _ | assumption | apply Drawn0.step))⟩
              · have h5':Lx.B s (a + n + 1)=10:=beq_iff_eq.mp h5
                rw [if_pos h5'] at hx
                have hx1:=mkA hx
                clear h5' hx
                go_wp2
                go_quiet (fail)
                clear hw c0 c1
                go_wp2_with (first | (go_at_call 157;(with_reducible refine (next_calls b s a (0) km sg cl _ ?_ hs (by omega) (by omega) (by omega)).mono ?_);exact hb;rintro e w' ⟨rfl,⟨nd,rfl⟩⟩) | (go_at_call 157;(with_reducible refine (next_calls b s a ((n:Int)) km sg cl _ ?_ hs (by omega) (by omega) (by omega)).mono ?_);exact hb;rintro e w' ⟨rfl,⟨nd,rfl⟩⟩) | (go_at_call 157;(with_reducible refine (next_calls b s a ((n:Int) + 1) km sg cl _ ?_ hs (by omega) (by omega) (by omega)).mono ?_);exact hb;rintro e w' ⟨rfl,⟨nd,rfl⟩⟩))
                go_ret
                exact ⟨by rw [E.out,← HA.out.2.2.1,hx1.out];simp,(by repeat (first | exact Drawn0.refl _ | assumption | apply Drawn0.step))⟩
          · have h3':=beq_iff_eq.mp h3
            rw [if_pos h3'] at hx
            have hx1:=mkA hx
            clear h3' hx
            go_wp2
            go_quiet (fail)
            clear hw c0 c1
            go_wp2_with (first | (go_at_call 157;(with_reducible refine (next_calls b s a (0) km sg cl _ ?_ hs (by omega) (by omega) (by omega)).mono ?_);exact hb;rintro e w' ⟨rfl,⟨nd,rfl⟩⟩) | (go_at_call 157;(with_reducible refine (next_calls b s a ((n:Int)) km sg cl _ ?_ hs (by omega) (by omega) (by omega)).mono ?_);exact hb;rintro e w' ⟨rfl,⟨nd,rfl⟩⟩) | (go_at_call 157;(with_reducible refine (next_calls b s a ((n:Int) + 1) km sg cl _ ?_ hs (by omega) (by omega) (by omega)).mono ?_);exact hb;rintro e w' ⟨rfl,⟨nd,rfl⟩⟩))
            go_ret
            exact ⟨by rw [E.out,← HA.out.2.2.1,hx1.out];simp,(by repeat (first | exact Drawn0.refl _ | assumption | apply Drawn0.step))⟩
        · have h2':=beq_iff_eq.mp h2
          rw [if_pos h2'] at hx
          have hx1:=mkA hx
          clear h2' hx
          go_wp2
          go_quiet (fail)
          clear hw c0 c1
          go_wp2_with (first | (go_at_call 157;(with_reducible refine (next_calls b s a (0) km sg cl _ ?_ hs (by omega) (by omega) (by omega)).mono ?_);exact hb;rintro e w' ⟨rfl,⟨nd,rfl⟩⟩) | (go_at_call 157;(with_reducible refine (next_calls b s a ((n:Int)) km sg cl _ ?_ hs (by omega) (by omega) (by omega)).mono ?_);exact hb;rintro e w' ⟨rfl,⟨nd,rfl⟩⟩) | (go_at_call 157;(with_reducible refine (next_calls b s a ((n:Int) + 1) km sg cl _ ?_ hs (by omega) (by omega) (by omega)).mono ?_);exact hb;rintro e w' ⟨rfl,⟨nd,rfl⟩⟩))
          go_ret
          exact ⟨by rw [E.out,← HA.out.2.2.1,hx1.out];exact congrArg (fun z:Int=>Ending.returned (Value.int .i64 z)) (by omega),(by repeat (first | exact Drawn0.refl _ | assumption | apply Drawn0.step))⟩
  · have E:Aside0 (Lx.quoteEnd s mk a=a):=⟨by unfold Lx.quoteEnd;rw [if_neg (bne_iff_ne.mp h1)]⟩
    clear hm
    go_enter Tryz.func165,Tryz.ntmps165
    go_wp2_with (first | (go_at_call 157;(with_reducible refine (next_calls b s a (0) km sg cl _ ?_ hs (by omega) (by omega) (by omega)).mono ?_);exact hb;rintro e w' ⟨rfl,⟨nd,rfl⟩⟩) | (go_at_call 157;(with_reducible refine (next_calls b s a ((n:Int)) km sg cl _ ?_ hs (by omega) (by omega) (by omega)).mono ?_);exact hb;rintro e w' ⟨rfl,⟨nd,rfl⟩⟩) | (go_at_call 157;(with_reducible refine (next_calls b s a ((n:Int) + 1) km sg cl _ ?_ hs (by omega) (by omega) (by omega)).mono ?_);exact hb;rintro e w' ⟨rfl,⟨nd,rfl⟩⟩))
    go_ret
    exact ⟨by rw [E.out];simp,(by repeat (first | exact Drawn0.refl _ | assumption | apply Drawn0.step))⟩
theorem char_calls (b:Nat) (s:ByteArray) (a:Nat) (km sg:Value) (cl:Bool) (w:World) (hb:Sc w b s a km sg cl) (hs:s.size ≤ 1000000) (ha:a < s.size) :
    Calls Tryz.prog 134 #[.pointer (some ⟨b,0,none⟩)] w fun e w'=>e=.returned (.int .i64 ((Lx.quoteEnd s 39 a - a:Nat):Int))∧Drawn0 w w':=by
  have hc:=fun w' (h:Drawn0 w w')=>quoted_calls b s a 39 km sg cl w' (hb.drawn h) hs ha (.inl rfl)
  clear hb
  go_enter Tryz.func134,Tryz.ntmps134
  go_wp2_with (first | (go_at_call 165;(with_reducible refine (hc _ ?_).mono ?_);exact Drawn0.refl _;rintro e w' ⟨rfl,⟨nd,rfl⟩⟩))
  go_ret
  exact ⟨rfl,(by repeat (first | exact Drawn0.refl _ | assumption | apply Drawn0.step))⟩
theorem text_calls (b:Nat) (s:ByteArray) (a:Nat) (km sg:Value) (cl:Bool) (w:World) (hb:Sc w b s a km sg cl) (hs:s.size ≤ 1000000) (ha:a < s.size) :
    Calls Tryz.prog 135 #[.pointer (some ⟨b,0,none⟩)] w fun e w'=>e=.returned (.int .i64 ((Lx.quoteEnd s 34 a - a:Nat):Int))∧Drawn0 w w':=by
  have hc:=fun w' (h:Drawn0 w w')=>quoted_calls b s a 34 km sg cl w' (hb.drawn h) hs ha (.inr rfl)
  clear hb
  go_enter Tryz.func135,Tryz.ntmps135
  go_wp2_with (first | (go_at_call 165;(with_reducible refine (hc _ ?_).mono ?_);exact Drawn0.refl _;rintro e w' ⟨rfl,⟨nd,rfl⟩⟩))
  go_ret
  exact ⟨rfl,(by repeat (first | exact Drawn0.refl _ | assumption | apply Drawn0.step))⟩
end Go.Proofs.YtjnafjgonoficaaGreatDoor
