/-
  What the lexer's 'before' comes to: what stands ahead of a token. Conditions: the scanner's cells lie in memory, the text is short, and the library's variable MaxLen holds a number.
  What the lexer's 'token' comes to. Conditions: the scanner's cells, its keys and its signs lie in memory, the text is short, and the library's variable MaxLen holds a number.
  What the lexer's lists of keys and signs come to. Conditions: the library's table of blanks is as its text lays it.
  The map of the lexer's keys. Conditions: none.
  What lex.Scan comes to: the tokens of a text of at most 30,000 bytes. Conditions: the library's variables are as their text lays them.
-/
import Derived.Laws.EntriesVeiled
import Derived.WalkSmall
import Derived.Maps.Own
import Derived.Maps.Views
import Derived.Test.YtjnafjgonoficaaGreatDoorF03
import Derived.Test.YtjnafjgonoficaaGreatDoorF02
set_option linter.unusedVariables false
set_option linter.unusedSimpArgs false
namespace Go.Proofs.YtjnafjgonoficaaGreatDoor
open Go.RowKit Go.Proofs.YtjnafjgonoficaaGreatDoorW.PrintWords
theorem gap_out (s:ByteArray) (p:Nat) (c:Bool) (h:s.size ≤ p):Lx.gap s p c=(p,c):=by
  unfold Lx.gap;rw [dif_neg (by omega)]
theorem gap_stop (s:ByteArray) (p:Nat) (c:Bool) (h:Lx.pieceEnd s p=p):Lx.gap s p c=(p,c):=by
  unfold Lx.gap;rw [dif_neg (by omega)]
theorem gap_goes (s:ByteArray) (p q:Nat) (c d:Bool) (hp:p < s.size) (hq:p < q) (h:Lx.pieceEnd s p=q) (hf:Lx.firstBehind s p q c=d):Lx.gap s p c=Lx.gap s q d:=by
  conv=>lhs;unfold Lx.gap
  rw [dif_pos ⟨hp,by omega⟩,h,hf]
theorem lf_one (s:ByteArray) (p:Nat):Lx.hasLf s p (p + 1)=decide (Lx.B s p=10):=by
  unfold Lx.hasLf;rw [dif_pos (by omega)];unfold Lx.hasLf;rw [dif_neg (by omega),Bool.or_false]
theorem lf_self (s:ByteArray) (p:Nat):Lx.hasLf s p p=false:=by
  unfold Lx.hasLf;rw [dif_neg (by omega)]
theorem lf_cons (s:ByteArray) (p e:Nat) (h:p < e):Lx.hasLf s p e=(decide (Lx.B s p=10) || Lx.hasLf s (p + 1) e):=by
  conv=>lhs;unfold Lx.hasLf
  rw [dif_pos h]
theorem lf_runS (s:ByteArray) (i:Nat):Lx.hasLf s i (Lx.runS s i)=false:=by
  unfold Lx.runS
  by_cases hi:i < s.size
  · rw [dif_pos hi]
    by_cases hc:Lx.B s i=10
    · rw [if_pos hc,lf_self]
    · rw [if_neg hc]
      have hb:=Lx.runS_b s (i + 1) (by omega)
      rw [lf_cons s i _ (by omega),decide_eq_false hc,lf_runS s (i + 1)];rfl
  · rw [dif_neg hi,lf_self]
  termination_by s.size - i
theorem piece_one (s:ByteArray) (p:Nat) (h:Lx.B s p=32 ∨ Lx.B s p=9 ∨ Lx.B s p=10 ∨ Lx.B s p=11 ∨ Lx.B s p=12 ∨ Lx.B s p=13):Lx.pieceEnd s p=p + 1:=by
  unfold Lx.pieceEnd;rw [if_pos h]
theorem gap_ten (s:ByteArray) (p:Nat) (c:Bool) (hp:p < s.size) (h:Lx.B s p=10):Lx.gap s p c=Lx.gap s (p + 1) true :=
  gap_goes s p (p + 1) c true hp (by omega) (piece_one s p (by omega)) (by
    unfold Lx.firstBehind;rw [if_neg (by rw [h];simp),lf_one,decide_eq_true h,Bool.or_true])
theorem gap_blank (s:ByteArray) (p:Nat) (c:Bool) (hp:p < s.size) (h:Lx.B s p=32 ∨ Lx.B s p=9):Lx.gap s p c=Lx.gap s (p + 1) c :=
  gap_goes s p (p + 1) c c hp (by omega) (piece_one s p (by omega)) (by
    unfold Lx.firstBehind;rw [if_neg (by omega),lf_one,decide_eq_false (by omega),Bool.or_false])
theorem gap_feed (s:ByteArray) (p:Nat) (c:Bool) (hp:p < s.size) (h:Lx.B s p=11 ∨ Lx.B s p=12 ∨ Lx.B s p=13):Lx.gap s p c=Lx.gap s (p + 1) false :=
  gap_goes s p (p + 1) c false hp (by omega) (piece_one s p (by omega)) (by unfold Lx.firstBehind;rw [if_pos ⟨rfl,h⟩])
theorem gap_join2 (s:ByteArray) (p:Nat) (c:Bool) (hp:p < s.size) (h:Lx.B s p=92) (h1:Lx.B s (p + 1)=10):Lx.gap s p c=Lx.gap s (p + 2) true :=
  gap_goes s p (p + 2) c true hp (by omega) (by unfold Lx.pieceEnd;rw [if_neg (by omega),if_pos h,if_pos h1]) (by
    unfold Lx.firstBehind;rw [if_neg (by omega),lf_cons s p _ (by omega),lf_cons s (p + 1) _ (by omega),decide_eq_true h1];simp)
theorem gap_join3 (s:ByteArray) (p:Nat) (c:Bool) (hp:p < s.size) (h:Lx.B s p=92) (h1:Lx.B s (p + 1)=13) (h2:Lx.B s (p + 2)=10):Lx.gap s p c=Lx.gap s (p + 3) true :=
  gap_goes s p (p + 3) c true hp (by omega) (by unfold Lx.pieceEnd;rw [if_neg (by omega),if_pos h,if_neg (by omega),if_pos ⟨h1,h2⟩]) (by
    unfold Lx.firstBehind;rw [if_neg (by omega),lf_cons s p _ (by omega),lf_cons s (p + 1) _ (by omega),lf_cons s (p + 1 + 1) _ (by omega),decide_eq_true h2];simp)
theorem gap_back (s:ByteArray) (p:Nat) (c:Bool) (h:Lx.B s p=92) (h1:¬ Lx.B s (p + 1)=10) (h2:¬ (Lx.B s (p + 1)=13∧Lx.B s (p + 2)=10)):Lx.gap s p c=(p,c) :=
  gap_stop s p c (by unfold Lx.pieceEnd;rw [if_neg (by omega),if_pos h,if_neg h1,if_neg h2])
theorem gap_slash (s:ByteArray) (p:Nat) (c:Bool) (hp:p < s.size) (h:Lx.B s p=47) (h1:Lx.B s (p + 1)=47):Lx.gap s p c=Lx.gap s (Lx.runS s p) c:=by
  have h2:p + 1 < s.size:=Lx.B_lt_of_ne (by rw [h1];decide)
  have e:Lx.runS s p=Lx.runS s (p + 2):=by
    unfold Lx.runS;rw [dif_pos hp,if_neg (by omega)];conv=>lhs;unfold Lx.runS
    rw [dif_pos h2,if_neg (by omega)];conv=>lhs;unfold Lx.runS
  have hb:=Lx.runS_b s (p + 2) (by omega)
  refine gap_goes s p _ c c hp (by omega) (by unfold Lx.pieceEnd;rw [if_neg (by omega),if_neg (by omega)];unfold Lx.commentEnd;rw [if_pos ⟨h,h1⟩]) ?_
  unfold Lx.firstBehind;rw [if_neg (by omega),lf_runS,Bool.or_false]
theorem gap_star (s:ByteArray) (p:Nat) (c:Bool) (hp:p < s.size) (h:Lx.B s p=47) (h1:Lx.B s (p + 1)=42):Lx.gap s p c=Lx.gap s (Lx.runC s (p + 2)) (c || Lx.hasLf s p (Lx.runC s (p + 2))):=by
  have h2:p + 1 < s.size:=Lx.B_lt_of_ne (by rw [h1];decide)
  have hb:=Lx.runC_b s (p + 2) (by omega)
  refine gap_goes s p _ c _ hp (by omega) (by unfold Lx.pieceEnd;rw [if_neg (by omega),if_neg (by omega)];unfold Lx.commentEnd;rw [if_neg (by omega),if_pos ⟨h,h1⟩]) ?_
  unfold Lx.firstBehind;rw [if_neg (by omega)]
theorem gap_else (s:ByteArray) (p:Nat) (c:Bool) (h0:¬ (Lx.B s p=32 ∨ Lx.B s p=9 ∨ Lx.B s p=10 ∨ Lx.B s p=11 ∨ Lx.B s p=12 ∨ Lx.B s p=13)) (h92:¬ Lx.B s p=92)
    (h1:¬ (Lx.B s p=47∧Lx.B s (p + 1)=47)) (h2:¬ (Lx.B s p=47∧Lx.B s (p + 1)=42)):Lx.gap s p c=(p,c) :=
  gap_stop s p c (by unfold Lx.pieceEnd;rw [if_neg h0,if_neg h92];unfold Lx.commentEnd;rw [if_neg h1,if_neg h2])
set_option maxRecDepth 100000 in
set_option maxHeartbeats 4000000 in
theorem before_calls (b:Nat) (s:ByteArray) (a:Nat) (km sg:Value) (cl:Bool) (w:World) (hb:Sc w b s a km sg cl) (hs:s.size ≤ 1000000) (ha:a ≤ s.size) (hm:MaxLen w) (hb4:4 < b) :
    Calls Tryz.prog 130 #[.pointer (some ⟨b,0,none⟩)] w fun e w'=>e=.returned (.string (s.extract a (Lx.gap s a cl).1))∧ScStep w w' b s (Lx.gap s a cl).1 km sg (Lx.gap s a cl).2:=by
  obtain ⟨c0,c1,-,-,-,-,-⟩:=hb.cells
  go_enter Tryz.func130,Tryz.ntmps130
  go_wp2_with fail
  clear c0 c1
  go_loopg [] (s.size - a) (fun kq w' => ∃ (p:Nat) (cl':Bool),Aside0 (a ≤ p∧p ≤ s.size∧Lx.gap s p cl'=Lx.gap s a cl∧kq=s.size - p)∧ScStep w w' b s p km sg cl')
  case atStart=>exact ⟨a,cl,⟨Nat.le_refl _,ha,rfl,rfl⟩,ScStep.refl hb⟩
  case round =>
    obtain ⟨p,cl',HA,hS⟩:=hrel
    have hap:=HA.out.1
    have hp:=HA.out.2.1
    obtain ⟨c0,c1,-,-,c4,f1,f4⟩:=hS.1.cells
    by_cases hlt:p < s.size
    · have hx:∀ h:p < s.size,((s[p]'h).toNat:Int)=Lx.B s p:=fun h=>by unfold Lx.B bt;rw [dif_pos (by simpa using h)];rfl
      have hd:decide ((p:Int) < s.size)=true:=by simpa using hlt
      cases h10:(Lx.B s p == 10)
      · cases h32:(Lx.B s p == 32)
        · cases h9:(Lx.B s p == 9)
          · cases h11:(Lx.B s p == 11)
            · cases h12:(Lx.B s p == 12)
              · cases h13:(Lx.B s p == 13)
                · have hno:Aside0 (¬ (Lx.B s p=32 ∨ Lx.B s p=9 ∨ Lx.B s p=10 ∨ Lx.B s p=11 ∨ Lx.B s p=12 ∨ Lx.B s p=13)):=⟨by
                    have g10:=beq_eq_false_iff_ne.mp h10;have g32:=beq_eq_false_iff_ne.mp h32;have g9:=beq_eq_false_iff_ne.mp h9
                    have g11:=beq_eq_false_iff_ne.mp h11;have g12:=beq_eq_false_iff_ne.mp h12;have g13:=beq_eq_false_iff_ne.mp h13
                    omega⟩
                  cases h92:(Lx.B s p == 92)
                  · have g92:=mkA (beq_eq_false_iff_ne.mp h92)
                    cases hA:(decide (Lx.B s p=47) && decide (Lx.B s (p + 1)=47))
                    · cases hB:(decide (Lx.B s p=47) && decide (Lx.B s (p + 1)=42))
                      · have hk:=fun W (h:Sc W b s p km sg cl')=>comment_no b s p km sg cl' W h hs hp hA hB
                        have e:Aside0 (Lx.gap s p cl'=(p,cl')):=⟨gap_else s p cl' hno.out g92.out (by simpa using hA) (by simpa using hB)⟩
                        clear hA hB
                        go_wp2
                        go_quiet (fail)
                        go_wp2
                        go_quiet (fail)
                        go_wp2_with (first | (go_at_call 157;(with_reducible refine (next_calls b s p (1) km sg cl' _ ?_ hs (by omega) (by omega) (by omega)).mono ?_);exact hS.1;rintro e w' ⟨rfl,⟨nd,rfl⟩⟩) | (go_at_call 157;(with_reducible refine (next_calls b s p (2) km sg cl' _ ?_ hs (by omega) (by omega) (by omega)).mono ?_);exact hS.1;rintro e w' ⟨rfl,⟨nd,rfl⟩⟩) | (go_at_call 158;(with_reducible refine (hk _ ?_).mono ?_);exact hS.1;rintro e w' ⟨rfl,⟨nd,rfl⟩⟩))
                        go_quiet (fail)
                        go_wp2
                        go_ret
                        have E:=HA.out.2.2.1
                        rw [e.out] at E
                        rw [← E]
                        exact ⟨rfl,by first | exact hS.drewN _ | exact (hS.drewN _).drewN _⟩
                      · have hk:=fun W (h:ScStep w W b s p km sg cl') (g:MaxLen W)=>comment_block b s p km sg cl' W h.1 hs hp g hA hB
                        have e:=mkA (gap_star s p cl' hlt (by simp at hB;exact hB.1) (by simp at hB;exact hB.2))
                        have hb2:=mkA (Lx.runC_b s (p + 2) (by have:=Lx.B_lt_of_ne (s:=s) (i:=p + 1) (by simp at hB;rw [hB.2];decide);omega))
                        clear hA hB
                        go_wp2
                        go_quiet (fail)
                        go_wp2
                        go_quiet (fail)
                        go_wp2_with (first | (go_at_call 157;(with_reducible refine (next_calls b s p (1) km sg cl' _ ?_ hs (by omega) (by omega) (by omega)).mono ?_);exact hS.1;rintro e w' ⟨rfl,⟨nd,rfl⟩⟩) | (go_at_call 158;(with_reducible refine (hk _ ?_ ?_).mono ?_);exact hS.drewN _;exact hm.grown (hS.drewN _).2 hb4;rintro e w' ⟨rfl,hS2⟩))
                        go_roundg (s.size - Lx.runC s (p + 2))
                        case measure=>have:=HA.out;have:=hb2.out;omega
                        case rel=>exact ⟨Lx.runC s (p + 2),_,⟨by have:=hb2.out;omega,hb2.out.2,by rw [← HA.out.2.2.1];exact e.out.symm,rfl⟩,(hS.drewN _).trans hS2⟩
                    · have hk:=fun W (h:Sc W b s p km sg cl')=>comment_line b s p km sg cl' W h hs hp hA
                      have e:=mkA (gap_slash s p cl' hlt (by simp at hA;exact hA.1) (by simp at hA;exact hA.2))
                      have hb2:=mkA (Lx.runS_b s (p + 1) (by omega))
                      have hb3:Aside0 (Lx.runS s p=Lx.runS s (p + 1)):=⟨by
                        conv=>lhs;unfold Lx.runS
                        rw [dif_pos hlt,if_neg (by simp at hA;rw [hA.1];decide)]⟩
                      clear hA
                      go_wp2
                      go_quiet (fail)
                      go_wp2
                      go_quiet (fail)
                      go_wp2_with (first | (go_at_call 157;(with_reducible refine (next_calls b s p (1) km sg cl' _ ?_ hs (by omega) (by omega) (by omega)).mono ?_);exact hS.1;rintro e w' ⟨rfl,⟨nd,rfl⟩⟩) | (go_at_call 158;(with_reducible refine (hk _ ?_).mono ?_);exact hS.1;rintro e w' ⟨rfl,hS2⟩))
                      go_roundg (s.size - Lx.runS s p)
                      case measure=>have:=HA.out;have:=hb2.out;have:=hb3.out;omega
                      case rel=>exact ⟨Lx.runS s p,cl',⟨by have:=hb2.out;have:=hb3.out;omega,by rw [hb3.out];exact hb2.out.2,by rw [← HA.out.2.2.1];exact e.out.symm,rfl⟩,(hS.drewN _).trans hS2⟩
                  · have g92:=mkA (beq_iff_eq.mp h92)
                    cases h1:(Lx.B s (p + 1) == 10)
                    · cases h2:(Lx.B s (p + 1) == 13)
                      · have e:Aside0 (Lx.gap s p cl'=(p,cl')):=⟨gap_back s p cl' g92.out (beq_eq_false_iff_ne.mp h1) (fun e=>by rw [e.1] at h2;cases h2)⟩
                        have hk:=fun W (h:Sc W b s p km sg cl')=>comment_no b s p km sg cl' W h hs hp (by rw [g92.out];rfl) (by rw [g92.out];rfl)
                        go_wp2
                        go_quiet (fail)
                        go_wp2
                        go_quiet (fail)
                        go_wp2_with (first | (go_at_call 157;(with_reducible refine (next_calls b s p (1) km sg cl' _ ?_ hs (by omega) (by omega) (by omega)).mono ?_);exact hS.1;rintro e w' ⟨rfl,⟨nd,rfl⟩⟩) | (go_at_call 157;(with_reducible refine (next_calls b s p (2) km sg cl' _ ?_ hs (by omega) (by omega) (by omega)).mono ?_);exact hS.1;rintro e w' ⟨rfl,⟨nd,rfl⟩⟩) | (go_at_call 158;(with_reducible refine (hk _ ?_).mono ?_);exact hS.1;rintro e w' ⟨rfl,⟨nd,rfl⟩⟩))
                        go_quiet (fail)
                        go_wp2
                        go_ret
                        have E:=HA.out.2.2.1
                        rw [e.out] at E
                        rw [← E]
                        exact ⟨rfl,by first | exact hS.drewN _ | exact (hS.drewN _).drewN _⟩
                      · cases h3:(Lx.B s (p + 2) == 10)
                        · have e:Aside0 (Lx.gap s p cl'=(p,cl')):=⟨gap_back s p cl' g92.out (beq_eq_false_iff_ne.mp h1) (fun e=>by rw [e.2] at h3;cases h3)⟩
                          have hk:=fun W (h:Sc W b s p km sg cl')=>comment_no b s p km sg cl' W h hs hp (by rw [g92.out];rfl) (by rw [g92.out];rfl)
                          go_wp2
                          go_quiet (fail)
                          go_wp2
                          go_quiet (fail)
                          go_wp2_with (first | (go_at_call 157;(with_reducible refine (next_calls b s p (1) km sg cl' _ ?_ hs (by omega) (by omega) (by omega)).mono ?_);exact hS.1;rintro e w' ⟨rfl,⟨nd,rfl⟩⟩) | (go_at_call 157;(with_reducible refine (next_calls b s p (2) km sg cl' _ ?_ hs (by omega) (by omega) (by omega)).mono ?_);exact hS.1;rintro e w' ⟨rfl,⟨nd,rfl⟩⟩) | (go_at_call 158;(with_reducible refine (hk _ ?_).mono ?_);exact hS.1;rintro e w' ⟨rfl,⟨nd,rfl⟩⟩))
                          go_quiet (fail)
                          go_wp2
                          go_ret
                          have E:=HA.out.2.2.1
                          rw [e.out] at E
                          rw [← E]
                          exact ⟨rfl,by first | exact hS.drewN _ | exact (hS.drewN _).drewN _⟩
                        · have e:=mkA (gap_join3 s p cl' hlt g92.out (beq_iff_eq.mp h2) (beq_iff_eq.mp h3))
                          have h3':p + 2 < s.size:=Lx.B_lt_of_ne (by rw [beq_iff_eq.mp h3];decide)
                          go_wp2
                          go_quiet (fail)
                          go_wp2
                          go_quiet (fail)
                          go_wp2_with (first | (go_at_call 157;(with_reducible refine (next_calls b s p (1) km sg cl' _ ?_ hs (by omega) (by omega) (by omega)).mono ?_);exact hS.1;rintro e w' ⟨rfl,⟨nd,rfl⟩⟩) | (go_at_call 157;(with_reducible refine (next_calls b s p (2) km sg cl' _ ?_ hs (by omega) (by omega) (by omega)).mono ?_);exact hS.1;rintro e w' ⟨rfl,⟨nd,rfl⟩⟩))
                          go_roundg (s.size - (p + 3))
                          case measure=>have:=HA.out;omega
                          case rel=>exact ⟨(p + 3),true,⟨by omega,by omega,by rw [← HA.out.2.2.1];exact e.out.symm,rfl⟩,((hS.drewN _).setCl (cl':=true)).setAt (a':=p + 3)⟩
                    · have e:=mkA (gap_join2 s p cl' hlt g92.out (beq_iff_eq.mp h1))
                      have h1':p + 1 < s.size:=Lx.B_lt_of_ne (by rw [beq_iff_eq.mp h1];decide)
                      go_wp2
                      go_quiet (fail)
                      go_wp2
                      go_quiet (fail)
                      go_wp2_with (first | (go_at_call 157;(with_reducible refine (next_calls b s p (1) km sg cl' _ ?_ hs (by omega) (by omega) (by omega)).mono ?_);exact hS.1;rintro e w' ⟨rfl,⟨nd,rfl⟩⟩) | (go_at_call 157;(with_reducible refine (next_calls b s p (2) km sg cl' _ ?_ hs (by omega) (by omega) (by omega)).mono ?_);exact hS.1;rintro e w' ⟨rfl,⟨nd,rfl⟩⟩))
                      go_roundg (s.size - (p + 2))
                      case measure=>have:=HA.out;omega
                      case rel=>exact ⟨(p + 2),true,⟨by omega,by omega,by rw [← HA.out.2.2.1];exact e.out.symm,rfl⟩,((hS.drewN _).setCl (cl':=true)).setAt (a':=p + 2)⟩
                · have e:=mkA (gap_feed s p cl' hlt (.inr (.inr (beq_iff_eq.mp h13))))
                  go_wp2
                  go_quiet (fail)
                  go_wp2
                  go_quiet (fail)
                  go_wp2_with (first | (go_at_call 157;(with_reducible refine (next_calls b s p (1) km sg cl' _ ?_ hs (by omega) (by omega) (by omega)).mono ?_);exact hS.1;rintro e w' ⟨rfl,⟨nd,rfl⟩⟩) | (go_at_call 157;(with_reducible refine (next_calls b s p (2) km sg cl' _ ?_ hs (by omega) (by omega) (by omega)).mono ?_);exact hS.1;rintro e w' ⟨rfl,⟨nd,rfl⟩⟩))
                  go_roundg (s.size - (p + 1))
                  case measure=>have:=HA.out;omega
                  case rel=>exact ⟨(p + 1),false,⟨by omega,by omega,by rw [← HA.out.2.2.1];exact e.out.symm,rfl⟩,((hS.drewN _).setCl (cl':=false)).setAt (a':=p + 1)⟩
              · have e:=mkA (gap_feed s p cl' hlt (.inr (.inl (beq_iff_eq.mp h12))))
                go_wp2
                go_quiet (fail)
                go_wp2
                go_quiet (fail)
                go_wp2_with (first | (go_at_call 157;(with_reducible refine (next_calls b s p (1) km sg cl' _ ?_ hs (by omega) (by omega) (by omega)).mono ?_);exact hS.1;rintro e w' ⟨rfl,⟨nd,rfl⟩⟩) | (go_at_call 157;(with_reducible refine (next_calls b s p (2) km sg cl' _ ?_ hs (by omega) (by omega) (by omega)).mono ?_);exact hS.1;rintro e w' ⟨rfl,⟨nd,rfl⟩⟩))
                go_roundg (s.size - (p + 1))
                case measure=>have:=HA.out;omega
                case rel=>exact ⟨(p + 1),false,⟨by omega,by omega,by rw [← HA.out.2.2.1];exact e.out.symm,rfl⟩,((hS.drewN _).setCl (cl':=false)).setAt (a':=p + 1)⟩
            · have e:=mkA (gap_feed s p cl' hlt (.inl (beq_iff_eq.mp h11)))
              go_wp2
              go_quiet (fail)
              go_wp2
              go_quiet (fail)
              go_wp2_with (first | (go_at_call 157;(with_reducible refine (next_calls b s p (1) km sg cl' _ ?_ hs (by omega) (by omega) (by omega)).mono ?_);exact hS.1;rintro e w' ⟨rfl,⟨nd,rfl⟩⟩) | (go_at_call 157;(with_reducible refine (next_calls b s p (2) km sg cl' _ ?_ hs (by omega) (by omega) (by omega)).mono ?_);exact hS.1;rintro e w' ⟨rfl,⟨nd,rfl⟩⟩))
              go_roundg (s.size - (p + 1))
              case measure=>have:=HA.out;omega
              case rel=>exact ⟨(p + 1),false,⟨by omega,by omega,by rw [← HA.out.2.2.1];exact e.out.symm,rfl⟩,((hS.drewN _).setCl (cl':=false)).setAt (a':=p + 1)⟩
          · have e:=mkA (gap_blank s p cl' hlt (.inr (beq_iff_eq.mp h9)))
            go_wp2
            go_quiet (fail)
            go_wp2
            go_quiet (fail)
            go_wp2_with (first | (go_at_call 157;(with_reducible refine (next_calls b s p (1) km sg cl' _ ?_ hs (by omega) (by omega) (by omega)).mono ?_);exact hS.1;rintro e w' ⟨rfl,⟨nd,rfl⟩⟩) | (go_at_call 157;(with_reducible refine (next_calls b s p (2) km sg cl' _ ?_ hs (by omega) (by omega) (by omega)).mono ?_);exact hS.1;rintro e w' ⟨rfl,⟨nd,rfl⟩⟩))
            go_roundg (s.size - (p + 1))
            case measure=>have:=HA.out;omega
            case rel=>exact ⟨(p + 1),cl',⟨by omega,by omega,by rw [← HA.out.2.2.1];exact e.out.symm,rfl⟩,(hS.drewN _).setAt (a':=p + 1)⟩
        · have e:=mkA (gap_blank s p cl' hlt (.inl (beq_iff_eq.mp h32)))
          go_wp2
          go_quiet (fail)
          go_wp2
          go_quiet (fail)
          go_wp2_with (first | (go_at_call 157;(with_reducible refine (next_calls b s p (1) km sg cl' _ ?_ hs (by omega) (by omega) (by omega)).mono ?_);exact hS.1;rintro e w' ⟨rfl,⟨nd,rfl⟩⟩) | (go_at_call 157;(with_reducible refine (next_calls b s p (2) km sg cl' _ ?_ hs (by omega) (by omega) (by omega)).mono ?_);exact hS.1;rintro e w' ⟨rfl,⟨nd,rfl⟩⟩))
          go_roundg (s.size - (p + 1))
          case measure=>have:=HA.out;omega
          case rel=>exact ⟨(p + 1),cl',⟨by omega,by omega,by rw [← HA.out.2.2.1];exact e.out.symm,rfl⟩,(hS.drewN _).setAt (a':=p + 1)⟩
      · have e:=mkA (gap_ten s p cl' hlt (beq_iff_eq.mp h10))
        go_wp2
        go_quiet (fail)
        go_wp2
        go_quiet (fail)
        go_wp2_with (first | (go_at_call 157;(with_reducible refine (next_calls b s p (1) km sg cl' _ ?_ hs (by omega) (by omega) (by omega)).mono ?_);exact hS.1;rintro e w' ⟨rfl,⟨nd,rfl⟩⟩) | (go_at_call 157;(with_reducible refine (next_calls b s p (2) km sg cl' _ ?_ hs (by omega) (by omega) (by omega)).mono ?_);exact hS.1;rintro e w' ⟨rfl,⟨nd,rfl⟩⟩))
        go_roundg (s.size - (p + 1))
        case measure=>have:=HA.out;omega
        case rel=>exact ⟨(p + 1),true,⟨by omega,by omega,by rw [← HA.out.2.2.1];exact e.out.symm,rfl⟩,((hS.drewN _).setCl (cl':=true)).setAt (a':=p + 1)⟩
    · obtain rfl:p=s.size:=by omega
      have hd:decide ((s.size:Int) < s.size)=false:=by simp
      have e:=mkA (gap_out s s.size cl' (Nat.le_refl _))
      go_wp2
      go_quiet (fail)
      go_wp2
      go_ret
      have E:=HA.out.2.2.1
      rw [e.out] at E
      rw [← E]
      exact ⟨rfl,hS.drewN _⟩
def tokV (t:Lx.Tok):Value:=.agg #[.int .i64 t.k,.string t.b,.string t.t,.int .i64 t.a]
theorem MaxLen.below {w w':World} (h:MaxLen w) (hb:Below w.heap.size w w'):MaxLen w':=by
  obtain ⟨m,hm⟩:=h
  exact ⟨m,pw_cell_below hb hm⟩
theorem MaxLen.alloc {w:World} (h:MaxLen w) (o:Obj):MaxLen (w.alloc o):=h.below ((Below.refl _ _).alloc (Nat.le_refl _) o)
theorem tok_set {w:World} {g:Nat} {x0 x1 x2 x3 y0 y1 y2 y3:Value} (h:w.heap[g]? = some (.cells #[x0,x1,x2,x3] 29 (0,0))) :
    ((((w.setCell ⟨g,0,none⟩ y0).setCell ⟨g,1,none⟩ y1).setCell ⟨g,2,none⟩ y2).setCell ⟨g,3,none⟩ y3).heap[g]? = some (.cells #[y0,y1,y2,y3] 29 (0,0)):=by
  have:=blk_set (blk_set (blk_set (blk_set h 0 y0) 1 y1) 2 y2) 3 y3
  simpa using this
theorem ScStep.setNew {w w':World} {b:Nat} {s:ByteArray} {a:Nat} {km sg:Value} {cl:Bool} (h:ScStep w w' b s a km sg cl) {g:Nat} (hg:w.heap.size ≤ g) (hb:b < w.heap.size) (i:Nat) (v:Value) :
    ScStep w (w'.setCell ⟨g,i,none⟩ v) b s a km sg cl :=
  ⟨blk_far h.1 (by show b ≠ g;omega) v,⟨h.2.os,h.2.tape,h.2.output,by simpa [World.setCell] using h.2.size,fun k hk hne=>(Below.heap_setCell _ _ _ _ (by show k ≠ g;omega)).trans (h.2.block k hk hne)⟩⟩
theorem ScStep.setAtI {w w':World} {b:Nat} {s:ByteArray} {a:Nat} {km sg:Value} {cl:Bool} (h:ScStep w w' b s a km sg cl) (a':Nat) (v:Int) (hv:v=(a':Int)):ScStep w (w'.setCell ⟨b,1,none⟩ (.int .i64 v)) b s a' km sg cl:=by
  rw [hv];exact h.setAt
theorem results_c {P:Program} {fn:Func} {p:Tmp} {ty:TypeId} (h:fn.results=#[.cell p ty]) (tmps:Array Value) (w:World) (g:Nat) (t:TypeId) (cs:Array Value) (fr:Nat × Nat) (d:TypeDesc)
    (hp:tmps.getD p undef=.pointer (some ⟨g,0,none⟩)) (hg:w.heap[g]? = some (.cells cs t fr))
    (hu:P.underlying ty=some d) (hd:(match d with | .struct _ | .array _ _=>true | _=>false)=true) (hi:(P.info? ty).map (·.size)=some cs.size) :
    (results fn tmps).run P w=.ok (.agg cs) w:=by
  have hp':tmps[p]?.getD undef=.pointer (some ⟨g,0,none⟩):=by simpa using hp
  simp [results,h,hp',asAddr,run_loadVar_row w g t ty cs fr d hg hu hd hi]
set_option maxRecDepth 100000 in
set_option maxHeartbeats 4000000 in
theorem token_end (b:Nat) (s:ByteArray) (a:Nat) (km sg:Value) (cl:Bool) (w:World) (hb:Sc w b s a km sg cl) (hs:s.size ≤ 1000000) (ha:a ≤ s.size) (hm:MaxLen w) (hb4:4 < b)
    (he:(Lx.gap s a cl).1=s.size) :
    Calls Tryz.prog 99 #[.pointer (some ⟨b,0,none⟩)] w fun e w'=>e=.returned (tokV ⟨0,s.extract a s.size,⟨#[]⟩,(s.size:Nat)⟩)∧∃ c,ScStep w w' b s s.size km sg c:=by
  have hk:=before_calls b s a km sg cl
  rw [he] at hk
  obtain ⟨c,hc⟩:∃ c,(Lx.gap s a cl).2=c:=⟨_,rfl⟩
  rw [hc] at hk
  clear he hc
  have hbl:=blk_lt hb
  go_enter Tryz.func99,Tryz.ntmps99
  go_wp2_with (first | (go_at_call 130;(refine (hk _ ?_ hs ha ?_ hb4).mono ?_);exact blk_alloc hb _;exact hm.alloc _;rintro e w' ⟨rfl,hS⟩;obtain ⟨c0,c1,-,-,-,-,-⟩:=hS.1.cells;have n0:=blk_lt hS.1;have hT:=blk_grown (blk_new w _) hS.2 (by simp;omega);have n1:=blk_lt hT;have t0:=blk_cell hT 0;have t1:=blk_cell hT 1;have t2:=blk_cell hT 2;have t3:=blk_cell hT 3;have f0:=blk_frozen hT 0;have f1:=blk_frozen hT 1;have f2:=blk_frozen hT 2;have f3:=blk_frozen hT 3;simp at t0 t1 t2 t3))
  go_quiet (fail)
  go_wp2
  refine bodyPost_ret (v:=tokV _) (results_c Tryz.results99 _ _ w.heap.size 29 _ _ _ rfl (tok_set (blk_drewN (blk_alloc hT _) _)) Tryz.underlying29 rfl (by kernel_rfl)) rfl ⟨rfl,c,?_⟩
  exact (((((((((ScStep.refl hb).alloc _).trans hS).alloc _).drewN _).setNew (Nat.le_refl _) hbl 0 _).setNew (Nat.le_refl _) hbl 1 _).setNew (Nat.le_refl _) hbl 2 _).setNew (Nat.le_refl _) hbl 3 _)
theorem tok_set0 {w:World} {g:Nat} {x0 x1 x2 x3 y0:Value} (h:w.heap[g]? = some (.cells #[x0,x1,x2,x3] 29 (0,0))):(w.setCell ⟨g,0,none⟩ y0).heap[g]? = some (.cells #[y0,x1,x2,x3] 29 (0,0)):=by
  simpa using blk_set h 0 y0
theorem tok_set2 {w:World} {g:Nat} {x0 x1 x2 x3 y2:Value} (h:w.heap[g]? = some (.cells #[x0,x1,x2,x3] 29 (0,0))):(w.setCell ⟨g,2,none⟩ y2).heap[g]? = some (.cells #[x0,x1,y2,x3] 29 (0,0)):=by
  simpa using blk_set h 2 y2
theorem blk_new_at (w:World) (o:Obj) (n:Nat) (h:w.heap.size=n):(w.alloc o).heap[n]? = some o:=by rw [← h];exact blk_new w o
def Km (w:World) (km:Value):Prop:=∃ mb es ck,km=.map (some mb)∧w.heap[mb]? = some (.map es ck) ∧
  ∀ W:World,W.heap[mb]? = some (.map es ck) → ∀ t:ByteArray,t.size ≤ 1000000 → (Instr.lookup 137 (.map (some mb)) (.string t) false).run Tryz.prog W=.ok (.bool (Lx.isKey t)) W
theorem wp_gen {P:Program} {c:Code} {Q:Exit → Act → World → Prop} {a:Act} {W0:World} (F:World → Prop) (h0:F W0) (h:∀ W,F W → c.wp P Q a W):c.wp P Q a W0:=h _ h0
def firstPos:List (Int × Nat) → Int × Nat
  | []=>(8,1)
  | (k,n) :: r=>if 0 < n then (k,n) else firstPos r
def lens (s:ByteArray) (p:Nat) (c:Bool):List (Int × Nat) :=
  [(7,lineLen s p c),(1,Lx.nameEnd s p - p),(3,Lx.numEnd s p - p),(4,Lx.quoteEnd s 39 p - p),(5,Lx.quoteEnd s 34 p - p),(6,Lx.signLen s p)]
theorem firstPos_no {l:List (Int × Nat)} {i:Nat} {k:Int} (h:l[i]? = some (k,0)):firstPos (l.drop i)=firstPos (l.drop (i + 1)):=by
  obtain ⟨hi,he⟩:=List.getElem?_eq_some_iff.1 h
  rw [List.drop_eq_getElem_cons hi,he];rfl
theorem firstPos_yes {l:List (Int × Nat)} {i n:Nat} {k:Int} (h:l[i]? = some (k,n)) (hn:0 < n):firstPos (l.drop i)=(k,n):=by
  obtain ⟨hi,he⟩:=List.getElem?_eq_some_iff.1 h
  rw [List.drop_eq_getElem_cons hi,he];exact if_pos hn
theorem begins_head (s:ByteArray) (p:Nat) (x:UInt8) (r:List UInt8) (h:Lx.begins s p (x :: r)=true):Lx.B s p=(x.toNat:Int):=by
  unfold Lx.begins at h
  by_cases hp:p < s.size
  · obtain ⟨b,hb,-,hd⟩:=Lx.B_at s p hp
    rw [hd] at h
    simp only [List.isPrefixOf,Bool.and_eq_true,beq_iff_eq] at h
    rw [hb,h.1]
  · rw [Lx.drop_none s p (by omega)] at h
    cases h
theorem signOf_none (s:ByteArray) (p:Nat):∀ (l:List (List UInt8)) (n:Nat),(∀ g ∈ l,Lx.begins s p g=false) → Lx.signOf s p l n=n
  | [],n,_=>rfl
  | g :: r,n,h=>by
    unfold Lx.signOf
    rw [if_neg (by rw [h g (List.mem_cons_self ..)];simp)]
    exact signOf_none s p r n fun x hx=>h x (List.mem_cons_of_mem _ hx)
theorem sign_quote (s:ByteArray) (p:Nat) (h:Lx.B s p=39 ∨ Lx.B s p=34):Lx.signLen s p=0:=by
  refine signOf_none s p _ 0 fun g hg => ?_
  have hall:(Lx.signs.all fun g=>match g with | []=>false | x :: _ => !(x == 39) && !(x == 34))=true:=by decide
  have:=List.all_eq_true.1 hall g hg
  match g,this with
  | x :: r,this =>
    cases hb:Lx.begins s p (x :: r)
    · rfl
    · have e:=begins_head s p x r hb
      simp only [Bool.and_eq_true,Bool.not_eq_true',beq_eq_false_iff_ne] at this
      rcases h with h | h
      · exact absurd (UInt8.toNat_inj.1 (show x.toNat=(39:UInt8).toNat by rw [h] at e;have:(39:UInt8).toNat=39:=rfl;omega)) this.1
      · exact absurd (UInt8.toNat_inj.1 (show x.toNat=(34:UInt8).toNat by rw [h] at e;have:(34:UInt8).toNat=34:=rfl;omega)) this.2
theorem quoteEnd_ge (s:ByteArray) (m:Int) (p:Nat) (hlt:p < s.size):p ≤ Lx.quoteEnd s m p:=by
  unfold Lx.quoteEnd
  split
  · have:=Lx.runQ_b s m p (p + 1) hlt (by omega);omega
  · omega
theorem pick_tok (s:ByteArray) (p n:Nat) (c:Bool) (k:Int) (hlt:p < s.size) (h:firstPos (lens s p c)=(k,n)) :
    Lx.tokEnd s p c=(if k=1∧Lx.isKey (s.extract p (p + n))=true then 2 else k,p + n):=by
  unfold lens at h
  unfold Lx.tokEnd
  by_cases hA:c=true∧Lx.B s p=35
  · rw [if_pos hA]
    have hb:=Lx.runL_b s p (p + 1) (by omega) (by omega)
    have hl:lineLen s p c=Lx.runL s p p - p:=by unfold lineLen;rw [if_pos hA]
    rw [Lx.runL_first s p hA.2] at hl ⊢
    unfold firstPos at h
    rw [if_pos (by omega)] at h
    obtain ⟨rfl,rfl⟩:=Prod.mk.inj h
    rw [if_neg (by omega)]
    exact Prod.ext rfl (by show _=p + lineLen s p c;omega)
  · rw [if_neg hA]
    have hl:lineLen s p c=0:=by unfold lineLen;rw [if_neg hA]
    unfold firstPos at h
    rw [if_neg (by omega)] at h
    unfold firstPos at h
    by_cases hB:Lx.isL (Lx.B s p)=true
    · rw [if_pos hB]
      have hn:Lx.nameEnd s p=Lx.runW s p:=by unfold Lx.nameEnd;rw [if_pos hB]
      have hg:p < Lx.runW s p:=by
        unfold Lx.runW;rw [dif_pos hlt,if_pos (by rw [hB];rfl)]
        have:=Lx.runW_ge s (p + 1);omega
      rw [if_pos (by omega)] at h
      obtain ⟨rfl,rfl⟩:=Prod.mk.inj h
      have e:p + (Lx.nameEnd s p - p)=Lx.runW s p:=by omega
      rw [e]
      by_cases hk:Lx.isKey (s.extract p (Lx.runW s p))=true
      · rw [if_pos hk,if_pos ⟨rfl,hk⟩]
      · rw [if_neg hk,if_neg (fun x=>hk x.2)]
    · rw [if_neg hB]
      have hn:Lx.nameEnd s p=p:=by unfold Lx.nameEnd;rw [if_neg hB]
      rw [if_neg (by omega)] at h
      unfold firstPos at h
      by_cases hC:(Lx.isD (Lx.B s p) || (decide (Lx.B s p=46) && Lx.isD (Lx.B s (p + 1))))=true
      · rw [if_pos hC]
        have hn:Lx.numEnd s p=Lx.runN s (p + 1):=by unfold Lx.numEnd;rw [if_pos hC]
        have hg:=Lx.runN_ge s (p + 1)
        rw [if_pos (by omega)] at h
        obtain ⟨rfl,rfl⟩:=Prod.mk.inj h
        rw [if_neg (by omega)]
        exact Prod.ext rfl (by show _=p + (Lx.numEnd s p - p);omega)
      · rw [if_neg hC]
        have hn:Lx.numEnd s p=p:=by unfold Lx.numEnd;rw [if_neg hC]
        rw [if_neg (by omega)] at h
        unfold firstPos at h
        by_cases hD:Lx.B s p=39 ∨ Lx.B s p=34
        · rw [if_pos hD]
          have hs0:=sign_quote s p hD
          have hq:=quoteEnd_ge s (Lx.B s p) p hlt
          rcases hD with hD | hD
          · rw [hD] at hq ⊢
            have h34:Lx.quoteEnd s 34 p=p:=by unfold Lx.quoteEnd;rw [if_neg (by omega)]
            by_cases hE:Lx.quoteEnd s 39 p=p
            · rw [if_pos hE]
              rw [if_neg (by omega)] at h
              unfold firstPos at h
              rw [if_neg (by omega)] at h
              unfold firstPos at h
              rw [if_neg (by omega)] at h
              unfold firstPos at h
              obtain ⟨rfl,rfl⟩:=Prod.mk.inj h
              rw [if_neg (by omega)]
            · rw [if_neg hE,if_neg (by omega)]
              rw [if_pos (by omega)] at h
              obtain ⟨rfl,rfl⟩:=Prod.mk.inj h
              rw [if_neg (by omega)]
              exact Prod.ext rfl (by show _=p + (Lx.quoteEnd s 39 p - p);omega)
          · rw [hD] at hq ⊢
            have h39:Lx.quoteEnd s 39 p=p:=by unfold Lx.quoteEnd;rw [if_neg (by omega)]
            rw [if_neg (by omega)] at h
            unfold firstPos at h
            by_cases hE:Lx.quoteEnd s 34 p=p
            · rw [if_pos hE]
              rw [if_neg (by omega)] at h
              unfold firstPos at h
              rw [if_neg (by omega)] at h
              unfold firstPos at h
              obtain ⟨rfl,rfl⟩:=Prod.mk.inj h
              rw [if_neg (by omega)]
            · rw [if_neg hE,if_pos rfl]
              rw [if_pos (by omega)] at h
              obtain ⟨rfl,rfl⟩:=Prod.mk.inj h
              rw [if_neg (by omega)]
              exact Prod.ext rfl (by show _=p + (Lx.quoteEnd s 34 p - p);omega)
        · rw [if_neg hD]
          have h39:Lx.quoteEnd s 39 p=p:=by unfold Lx.quoteEnd;rw [if_neg (by omega)]
          have h34:Lx.quoteEnd s 34 p=p:=by unfold Lx.quoteEnd;rw [if_neg (by omega)]
          rw [if_neg (by omega)] at h
          unfold firstPos at h
          rw [if_neg (by omega)] at h
          unfold firstPos at h
          by_cases hE:Lx.signLen s p=0
          · rw [if_pos hE]
            rw [if_neg (by omega)] at h
            unfold firstPos at h
            obtain ⟨rfl,rfl⟩:=Prod.mk.inj h
            rw [if_neg (by omega)]
          · rw [if_neg hE]
            rw [if_pos (by omega)] at h
            obtain ⟨rfl,rfl⟩:=Prod.mk.inj h
            rw [if_neg (by omega)]
theorem Sg.alloc {w:World} {gb:Nat} (h:Sg w gb) (o:Obj):Sg (w.alloc o) gb:=fun i g hi=>pw_cell_below ((Below.refl _ _).alloc (Nat.le_refl _) o) (h i g hi)
theorem Sg.drewN {w:World} {gb:Nat} (h:Sg w gb) (n:Nat):Sg (w.drewN n) gb:=h
theorem Sg.setCell {w:World} {gb:Nat} (h:Sg w gb) {g:Nat} (hne:gb ≠ g) (j:Nat) (v:Value):Sg (w.setCell ⟨g,j,none⟩ v) gb:=fun i x hi=>by
  rw [← h i x hi];exact World.cell?_of_block (w:=w) (Below.heap_setCell _ _ _ _ hne)
set_option maxRecDepth 100000 in
set_option maxHeartbeats 8000000 in
theorem token_main (b gb:Nat) (s:ByteArray) (a:Nat) (km:Value) (cl:Bool) (w:World) (hb:Sc w b s a km (.slice (some ⟨gb,0,none⟩) 47 47) cl) (hg:Sg w gb) (hkm:Km w km) (hs:s.size ≤ 1000000) (ha:a ≤ s.size) (hm:MaxLen w) (hb4:4 < b) (hgb:gb < w.heap.size) (hgb2:gb ≠ b)
    (p:Nat) (c:Bool) (hp:Lx.gap s a cl=(p,c)) (hlt:p < s.size) :
    Calls Tryz.prog 99 #[.pointer (some ⟨b,0,none⟩)] w fun e w'=>e=.returned (tokV ⟨(Lx.tokEnd s p c).1,s.extract a p,s.extract p (Lx.tokEnd s p c).2,(p:Nat)⟩)∧ScStep w w' b s (Lx.tokEnd s p c).2 km (.slice (some ⟨gb,0,none⟩) 47 47) false:=by
  have hk:=before_calls b s a km (.slice (some ⟨gb,0,none⟩) 47 47) cl
  rw [hp] at hk
  have hne:((p:Int) == s.size)=false:=by rw [beq_eq_false_iff_ne];omega
  clear hp
  have hbl:=blk_lt hb
  go_enter Tryz.func99,Tryz.ntmps99
  go_wp2_with (first | (go_at_call 130;(refine (hk _ ?_ hs ha ?_ hb4).mono ?_);exact blk_alloc hb _;exact hm.alloc _;rintro e w' ⟨rfl,hS⟩;obtain ⟨c0,c1,-,-,-,-,-⟩:=hS.1.cells;have n0:=blk_lt hS.1;have hT:=blk_grown (blk_new w _) hS.2 (by simp;omega);have n1:=blk_lt hT))
  go_quiet (fail)
  go_upto_block 0 with (fail)
  refine wp_gen (fun W=>ScStep w W b s p km (.slice (some ⟨gb,0,none⟩) 47 47) c∧Sg W gb∧W.heap[w'.heap.size]? = some (.cells #[.int .i64 8,.string (s.extract a p),.string ⟨#[]⟩,.int .i64 p] 29 (0,0)) ∧
    W.heap[w'.heap.size + 1]? = some (.cells #[.int .i64 7,.func (.func 131) #[.pointer (some ⟨b,0,none⟩)] #[],.int .i64 1,.func (.func 132) #[.pointer (some ⟨b,0,none⟩)] #[],.int .i64 3,.func (.func 133) #[.pointer (some ⟨b,0,none⟩)] #[],.int .i64 4,.func (.func 134) #[.pointer (some ⟨b,0,none⟩)] #[],.int .i64 5,.func (.func 135) #[.pointer (some ⟨b,0,none⟩)] #[],.int .i64 6,.func (.func 136) #[.pointer (some ⟨b,0,none⟩)] #[]] 172 (0,0)) ∧
    W.heap[w.heap.size]? = some (.cells #[.int .i64 0,.string ⟨#[]⟩,.string ⟨#[]⟩,.int .i64 0] 29 (0,0))) ⟨?_,?_,?_,?_,?_⟩ ?_
  · exact (((((((ScStep.refl hb).alloc _).trans hS).alloc _).drewN _).setNew (Nat.le_of_lt n1) hbl 0 _).alloc _)
  · refine Sg.alloc (Sg.setCell (Sg.drewN (Sg.alloc (fun i g hi=>hS.2.cell ((Sg.alloc hg _) i g hi) (by simpa using hgb2)) _) _) ?_ 0 _) _
    show gb ≠ _;omega
  · exact blk_alloc (tok_set0 (blk_drewN (blk_new w' _) _)) _
  · exact blk_new_at _ _ _ (by simp)
  · exact blk_alloc (blk_far (blk_drewN (blk_alloc hT _) _) (by show w.heap.size ≠ w'.heap.size;omega) _) _
  rintro W ⟨hS0,hG0,hTB0,hKB0,hRB0⟩
  clear c0 c1
  obtain ⟨tb,htb⟩:∃ tb,w'.heap.size=tb:=⟨_,rfl⟩
  rw [htb] at hTB0 hKB0 ⊢
  have hrt:w.heap.size < tb:=by omega
  clear htb hT n0 n1
  go_cut [5] (fun v5 W' => ∃ (n:Nat) (k:Int),v5=.int .i64 n∧Aside0 (firstPos (lens s p c)=(k,n))∧ScStep w W' b s p km (.slice (some ⟨gb,0,none⟩) 47 47) c∧W'.heap[tb]? = some (.cells #[.int .i64 k,.string (s.extract a p),.string ⟨#[]⟩,.int .i64 p] 29 (0,0))∧W'.heap[w.heap.size]? = some (.cells #[.int .i64 0,.string ⟨#[]⟩,.string ⟨#[]⟩,.int .i64 0] 29 (0,0)))
  case first =>
    go_wp2_with fail
    go_loopg [5,49] 6 (fun kq v5 v49 W' => ∃ i:Nat,v5=.int .i64 1∧v49=.int .i64 i∧Aside0 (i ≤ 6∧firstPos ((lens s p c).drop i)=firstPos (lens s p c)∧kq=6 - i)∧ScStep w W' b s p km (.slice (some ⟨gb,0,none⟩) 47 47) c∧Sg W' gb ∧
      W'.heap[tb]? = some (.cells #[.int .i64 8,.string (s.extract a p),.string ⟨#[]⟩,.int .i64 p] 29 (0,0)) ∧
      W'.heap[tb + 1]? = some (.cells #[.int .i64 7,.func (.func 131) #[.pointer (some ⟨b,0,none⟩)] #[],.int .i64 1,.func (.func 132) #[.pointer (some ⟨b,0,none⟩)] #[],.int .i64 3,.func (.func 133) #[.pointer (some ⟨b,0,none⟩)] #[],.int .i64 4,.func (.func 134) #[.pointer (some ⟨b,0,none⟩)] #[],.int .i64 5,.func (.func 135) #[.pointer (some ⟨b,0,none⟩)] #[],.int .i64 6,.func (.func 136) #[.pointer (some ⟨b,0,none⟩)] #[]] 172 (0,0)) ∧
      W'.heap[w.heap.size]? = some (.cells #[.int .i64 0,.string ⟨#[]⟩,.string ⟨#[]⟩,.int .i64 0] 29 (0,0)))
    case atStart=>exact ⟨0,rfl,rfl,⟨by omega,rfl,rfl⟩,hS0,hG0,hTB0,hKB0,hRB0⟩
    case round =>
      clear hS0 hG0 hTB0 hKB0 hRB0 hk
      obtain ⟨i,rfl,rfl,HA,hS1,hG1,hTB,hKB,hRB⟩:=hrel
      have hi:=HA.out.1
      have n2:=blk_lt hKB
      have n3:=blk_lt hTB
      rcases (show i=0 ∨ i=1 ∨ i=2 ∨ i=3 ∨ i=4 ∨ i=5 ∨ i=6 from by omega) with rfl | rfl | rfl | rfl | rfl | rfl | rfl
      · obtain ⟨ln,hln⟩:∃ ln,(lens s p c)[0]? = some (7,ln):=⟨_,rfl⟩
        have hcon:=fun W (h:Sc W b s p km (.slice (some ⟨gb,0,none⟩) 47 47) c) (g:Sg W gb)=>line_calls b s p km (.slice (some ⟨gb,0,none⟩) 47 47) c W h hs (by omega)
        have hln':_=ln:=(Prod.mk.inj (Option.some.inj hln)).2
        rw [hln'] at hcon
        clear hln'
        have q0:=blk_cell hKB (2 * 0)
        have q1:=blk_cell hKB (2 * 0 + 1)
        simp at q0 q1
        rcases Nat.eq_zero_or_pos ln with hz | hz
        · have hF:=mkA (firstPos_no (by rw [hln,hz]))
          have hz':decide (0 < ln)=false:=by simp;omega
          clear hln hz
          go_wp2_with (go_at_call 131;(with_reducible refine (hcon _ ?_ ?_).mono ?_);exact blk_alloc hS1.1 _;exact hG1.alloc _;rintro e w' ⟨rfl,⟨nd,rfl⟩⟩)
          go_roundg (6 - (0 + 1))
          case measure=>have:=HA.out;omega
          case rel=>exact ⟨0 + 1,rfl,rfl,⟨by omega,by rw [← HA.out.2.1,hF.out],rfl⟩,(hS1.alloc _).drewN _,(hG1.alloc _),blk_alloc hTB _,blk_alloc hKB _,blk_alloc hRB _⟩
        · have hF:=mkA (firstPos_yes hln hz)
          have hz':decide (0 < ln)=true:=by simp;omega
          clear hln hz
          go_wp2_with (go_at_call 131;(with_reducible refine (hcon _ ?_ ?_).mono ?_);exact blk_alloc hS1.1 _;exact hG1.alloc _;rintro e w' ⟨rfl,⟨nd,rfl⟩⟩)
          have t0:=blk_cell hTB 0
          have t0f:=blk_frozen hTB 0
          simp at t0
          go_region
          all_goals go_wp2
          all_goals go_meet
          all_goals exact ⟨ln,7,rfl,⟨by rw [← HA.out.2.1];exact hF.out⟩,(((hS1.alloc _).drewN _).setNew (Nat.le_of_lt hrt) hbl 0 _),tok_set0 (blk_drewN (blk_alloc hTB _) _),blk_far (blk_drewN (blk_alloc hRB _) _) (Nat.ne_of_lt hrt) _⟩
      · obtain ⟨ln,hln⟩:∃ ln,(lens s p c)[1]? = some (1,ln):=⟨_,rfl⟩
        have hcon:=fun W (h:Sc W b s p km (.slice (some ⟨gb,0,none⟩) 47 47) c) (g:Sg W gb)=>name_calls b s p km (.slice (some ⟨gb,0,none⟩) 47 47) c W h hs (by omega)
        have hln':_=ln:=(Prod.mk.inj (Option.some.inj hln)).2
        rw [hln'] at hcon
        clear hln'
        have q0:=blk_cell hKB (2 * 1)
        have q1:=blk_cell hKB (2 * 1 + 1)
        simp at q0 q1
        rcases Nat.eq_zero_or_pos ln with hz | hz
        · have hF:=mkA (firstPos_no (by rw [hln,hz]))
          have hz':decide (0 < ln)=false:=by simp;omega
          clear hln hz
          go_wp2_with (go_at_call 132;(with_reducible refine (hcon _ ?_ ?_).mono ?_);exact blk_alloc hS1.1 _;exact hG1.alloc _;rintro e w' ⟨rfl,⟨nd,rfl⟩⟩)
          go_roundg (6 - (1 + 1))
          case measure=>have:=HA.out;omega
          case rel=>exact ⟨1 + 1,rfl,rfl,⟨by omega,by rw [← HA.out.2.1,hF.out],rfl⟩,(hS1.alloc _).drewN _,(hG1.alloc _),blk_alloc hTB _,blk_alloc hKB _,blk_alloc hRB _⟩
        · have hF:=mkA (firstPos_yes hln hz)
          have hz':decide (0 < ln)=true:=by simp;omega
          clear hln hz
          go_wp2_with (go_at_call 132;(with_reducible refine (hcon _ ?_ ?_).mono ?_);exact blk_alloc hS1.1 _;exact hG1.alloc _;rintro e w' ⟨rfl,⟨nd,rfl⟩⟩)
          have t0:=blk_cell hTB 0
          have t0f:=blk_frozen hTB 0
          simp at t0
          go_region
          all_goals go_wp2
          all_goals go_meet
          all_goals exact ⟨ln,1,rfl,⟨by rw [← HA.out.2.1];exact hF.out⟩,(((hS1.alloc _).drewN _).setNew (Nat.le_of_lt hrt) hbl 0 _),tok_set0 (blk_drewN (blk_alloc hTB _) _),blk_far (blk_drewN (blk_alloc hRB _) _) (Nat.ne_of_lt hrt) _⟩
      · obtain ⟨ln,hln⟩:∃ ln,(lens s p c)[2]? = some (3,ln):=⟨_,rfl⟩
        have hcon:=fun W (h:Sc W b s p km (.slice (some ⟨gb,0,none⟩) 47 47) c) (g:Sg W gb)=>number_calls b s p km (.slice (some ⟨gb,0,none⟩) 47 47) c W h hs (by omega)
        have hln':_=ln:=(Prod.mk.inj (Option.some.inj hln)).2
        rw [hln'] at hcon
        clear hln'
        have q0:=blk_cell hKB (2 * 2)
        have q1:=blk_cell hKB (2 * 2 + 1)
        simp at q0 q1
        rcases Nat.eq_zero_or_pos ln with hz | hz
        · have hF:=mkA (firstPos_no (by rw [hln,hz]))
          have hz':decide (0 < ln)=false:=by simp;omega
          clear hln hz
          go_wp2_with (go_at_call 133;(with_reducible refine (hcon _ ?_ ?_).mono ?_);exact blk_alloc hS1.1 _;exact hG1.alloc _;rintro e w' ⟨rfl,⟨nd,rfl⟩⟩)
          go_roundg (6 - (2 + 1))
          case measure=>have:=HA.out;omega
          case rel=>exact ⟨2 + 1,rfl,rfl,⟨by omega,by rw [← HA.out.2.1,hF.out],rfl⟩,(hS1.alloc _).drewN _,(hG1.alloc _),blk_alloc hTB _,blk_alloc hKB _,blk_alloc hRB _⟩
        · have hF:=mkA (firstPos_yes hln hz)
          have hz':decide (0 < ln)=true:=by simp;omega
          clear hln hz
          go_wp2_with (go_at_call 133;(with_reducible refine (hcon _ ?_ ?_).mono ?_);exact blk_alloc hS1.1 _;exact hG1.alloc _;rintro e w' ⟨rfl,⟨nd,rfl⟩⟩)
          have t0:=blk_cell hTB 0
          have t0f:=blk_frozen hTB 0
          simp at t0
          go_region
          all_goals go_wp2
          all_goals go_meet
          all_goals exact ⟨ln,3,rfl,⟨by rw [← HA.out.2.1];exact hF.out⟩,(((hS1.alloc _).drewN _).setNew (Nat.le_of_lt hrt) hbl 0 _),tok_set0 (blk_drewN (blk_alloc hTB _) _),blk_far (blk_drewN (blk_alloc hRB _) _) (Nat.ne_of_lt hrt) _⟩
      · obtain ⟨ln,hln⟩:∃ ln,(lens s p c)[3]? = some (4,ln):=⟨_,rfl⟩
        have hcon:=fun W (h:Sc W b s p km (.slice (some ⟨gb,0,none⟩) 47 47) c) (g:Sg W gb)=>char_calls b s p km (.slice (some ⟨gb,0,none⟩) 47 47) c W h hs hlt
        have hln':_=ln:=(Prod.mk.inj (Option.some.inj hln)).2
        rw [hln'] at hcon
        clear hln'
        have q0:=blk_cell hKB (2 * 3)
        have q1:=blk_cell hKB (2 * 3 + 1)
        simp at q0 q1
        rcases Nat.eq_zero_or_pos ln with hz | hz
        · have hF:=mkA (firstPos_no (by rw [hln,hz]))
          have hz':decide (0 < ln)=false:=by simp;omega
          clear hln hz
          go_wp2_with (go_at_call 134;(with_reducible refine (hcon _ ?_ ?_).mono ?_);exact blk_alloc hS1.1 _;exact hG1.alloc _;rintro e w' ⟨rfl,⟨nd,rfl⟩⟩)
          go_roundg (6 - (3 + 1))
          case measure=>have:=HA.out;omega
          case rel=>exact ⟨3 + 1,rfl,rfl,⟨by omega,by rw [← HA.out.2.1,hF.out],rfl⟩,(hS1.alloc _).drewN _,(hG1.alloc _),blk_alloc hTB _,blk_alloc hKB _,blk_alloc hRB _⟩
        · have hF:=mkA (firstPos_yes hln hz)
          have hz':decide (0 < ln)=true:=by simp;omega
          clear hln hz
          go_wp2_with (go_at_call 134;(with_reducible refine (hcon _ ?_ ?_).mono ?_);exact blk_alloc hS1.1 _;exact hG1.alloc _;rintro e w' ⟨rfl,⟨nd,rfl⟩⟩)
          have t0:=blk_cell hTB 0
          have t0f:=blk_frozen hTB 0
          simp at t0
          go_region
          all_goals go_wp2
          all_goals go_meet
          all_goals exact ⟨ln,4,rfl,⟨by rw [← HA.out.2.1];exact hF.out⟩,(((hS1.alloc _).drewN _).setNew (Nat.le_of_lt hrt) hbl 0 _),tok_set0 (blk_drewN (blk_alloc hTB _) _),blk_far (blk_drewN (blk_alloc hRB _) _) (Nat.ne_of_lt hrt) _⟩
      · obtain ⟨ln,hln⟩:∃ ln,(lens s p c)[4]? = some (5,ln):=⟨_,rfl⟩
        have hcon:=fun W (h:Sc W b s p km (.slice (some ⟨gb,0,none⟩) 47 47) c) (g:Sg W gb)=>text_calls b s p km (.slice (some ⟨gb,0,none⟩) 47 47) c W h hs hlt
        have hln':_=ln:=(Prod.mk.inj (Option.some.inj hln)).2
        rw [hln'] at hcon
        clear hln'
        have q0:=blk_cell hKB (2 * 4)
        have q1:=blk_cell hKB (2 * 4 + 1)
        simp at q0 q1
        rcases Nat.eq_zero_or_pos ln with hz | hz
        · have hF:=mkA (firstPos_no (by rw [hln,hz]))
          have hz':decide (0 < ln)=false:=by simp;omega
          clear hln hz
          go_wp2_with (go_at_call 135;(with_reducible refine (hcon _ ?_ ?_).mono ?_);exact blk_alloc hS1.1 _;exact hG1.alloc _;rintro e w' ⟨rfl,⟨nd,rfl⟩⟩)
          go_roundg (6 - (4 + 1))
          case measure=>have:=HA.out;omega
          case rel=>exact ⟨4 + 1,rfl,rfl,⟨by omega,by rw [← HA.out.2.1,hF.out],rfl⟩,(hS1.alloc _).drewN _,(hG1.alloc _),blk_alloc hTB _,blk_alloc hKB _,blk_alloc hRB _⟩
        · have hF:=mkA (firstPos_yes hln hz)
          have hz':decide (0 < ln)=true:=by simp;omega
          clear hln hz
          go_wp2_with (go_at_call 135;(with_reducible refine (hcon _ ?_ ?_).mono ?_);exact blk_alloc hS1.1 _;exact hG1.alloc _;rintro e w' ⟨rfl,⟨nd,rfl⟩⟩)
          have t0:=blk_cell hTB 0
          have t0f:=blk_frozen hTB 0
          simp at t0
          go_region
          all_goals go_wp2
          all_goals go_meet
          all_goals exact ⟨ln,5,rfl,⟨by rw [← HA.out.2.1];exact hF.out⟩,(((hS1.alloc _).drewN _).setNew (Nat.le_of_lt hrt) hbl 0 _),tok_set0 (blk_drewN (blk_alloc hTB _) _),blk_far (blk_drewN (blk_alloc hRB _) _) (Nat.ne_of_lt hrt) _⟩
      · obtain ⟨ln,hln⟩:∃ ln,(lens s p c)[5]? = some (6,ln):=⟨_,rfl⟩
        have hcon:=fun W (h:Sc W b s p km (.slice (some ⟨gb,0,none⟩) 47 47) c) (g:Sg W gb)=>sign_calls b gb s p km c W h g hs (by omega)
        have hln':_=ln:=(Prod.mk.inj (Option.some.inj hln)).2
        rw [hln'] at hcon
        clear hln'
        have q0:=blk_cell hKB (2 * 5)
        have q1:=blk_cell hKB (2 * 5 + 1)
        simp at q0 q1
        rcases Nat.eq_zero_or_pos ln with hz | hz
        · have hF:=mkA (firstPos_no (by rw [hln,hz]))
          have hz':decide (0 < ln)=false:=by simp;omega
          clear hln hz
          go_wp2_with (go_at_call 136;(with_reducible refine (hcon _ ?_ ?_).mono ?_);exact blk_alloc hS1.1 _;exact hG1.alloc _;rintro e w' ⟨rfl,⟨nd,rfl⟩⟩)
          go_roundg (6 - (5 + 1))
          case measure=>have:=HA.out;omega
          case rel=>exact ⟨5 + 1,rfl,rfl,⟨by omega,by rw [← HA.out.2.1,hF.out],rfl⟩,(hS1.alloc _).drewN _,(hG1.alloc _),blk_alloc hTB _,blk_alloc hKB _,blk_alloc hRB _⟩
        · have hF:=mkA (firstPos_yes hln hz)
          have hz':decide (0 < ln)=true:=by simp;omega
          clear hln hz
          go_wp2_with (go_at_call 136;(with_reducible refine (hcon _ ?_ ?_).mono ?_);exact blk_alloc hS1.1 _;exact hG1.alloc _;rintro e w' ⟨rfl,⟨nd,rfl⟩⟩)
          have t0:=blk_cell hTB 0
          have t0f:=blk_frozen hTB 0
          simp at t0
          go_region
          all_goals go_wp2
          all_goals go_meet
          all_goals exact ⟨ln,6,rfl,⟨by rw [← HA.out.2.1];exact hF.out⟩,(((hS1.alloc _).drewN _).setNew (Nat.le_of_lt hrt) hbl 0 _),tok_set0 (blk_drewN (blk_alloc hTB _) _),blk_far (blk_drewN (blk_alloc hRB _) _) (Nat.ne_of_lt hrt) _⟩
      · go_wp2_with fail
        go_meet
        exact ⟨1,8,rfl,⟨by rw [← HA.out.2.1];rfl⟩,hS1,hTB,hRB⟩
  case rest =>
    clear hS0 hG0 hTB0 hKB0 hRB0 hk
    obtain ⟨n,k,rfl,HF,hS1,hTB,hRB⟩:=hcut
    have HT:=mkA (pick_tok s p n c k hlt HF.out)
    have hpn:p + n ≤ s.size:=by have:=Lx.tokEnd_b s p c hlt;rw [HT.out] at this;exact this.2
    obtain ⟨c0,c1,-,-,-,-,-⟩:=hS1.1.cells
    have t2:=blk_cell hTB 2
    have t2f:=blk_frozen hTB 2
    simp at t2
    go_wp2
    go_region
    go_upto_region 15 with (fail)
    obtain ⟨mb,es,ck,rfl,hmb,hlook⟩:=hkm
    have hmbl:=blk_lt hmb
    have hmbb:mb ≠ b:=fun e=>by rw [e,hb] at hmb;cases hmb
    refine wp_gen (fun W=>ScStep w W b s p (.map (some mb)) (.slice (some ⟨gb,0,none⟩) 47 47) c∧W.heap[tb]? = some (.cells #[.int .i64 k,.string (s.extract a p),.string (s.extract p (p + n)),.int .i64 p] 29 (0,0))∧W.heap[w.heap.size]? = some (.cells #[.int .i64 0,.string ⟨#[]⟩,.string ⟨#[]⟩,.int .i64 0] 29 (0,0))) ⟨?_,?_,?_⟩ ?_
    · exact (hS1.drewN 1).setNew (Nat.le_of_lt hrt) hbl 2 _
    · exact tok_set2 (blk_drewN hTB 1)
    · exact blk_far (blk_drewN hRB 1) (Nat.ne_of_lt hrt) _
    clear t2 t2f c0 c1 hS1 hTB hRB
    rintro W ⟨hS1,hTB,hRB⟩
    obtain ⟨c0,c1,c2,-,c4,f1,f4⟩:=hS1.1.cells
    have t0:=blk_cell hTB 0
    have t1:=blk_cell hTB 1
    have t2:=blk_cell hTB 2
    have t3:=blk_cell hTB 3
    have t0f:=blk_frozen hTB 0
    have r0:=blk_cell hRB 0
    have r1:=blk_cell hRB 1
    have r2:=blk_cell hRB 2
    have r3:=blk_cell hRB 3
    have r0f:=blk_frozen hRB 0
    have r1f:=blk_frozen hRB 1
    have r2f:=blk_frozen hRB 2
    have r3f:=blk_frozen hRB 3
    simp at t0 t1 t2 t3 r0 r1 r2 r3
    have nbt:b ≠ tb:=by omega
    have nbr:b ≠ w.heap.size:=by omega
    have nrt:w.heap.size ≠ tb:=by omega
    have hlk:=fun nn:Nat=>hlook (W.drewN nn) ((hS1.2.block mb hmbl (by simpa using hmbb)).trans hmb) (s.extract p (p + n)) (by rw [ByteArray.size_extract];omega)
    clear hlook
    cases hk1:(k == 1)
    · have HE:Aside0 (Lx.tokEnd s p c=(k,p + n)):=⟨by rw [HT.out,if_neg (fun e=>beq_eq_false_iff_ne.mp hk1 e.1)]⟩
      clear hlk
      go_quiet (fail)
      go_wp2
      rw [HE.out]
      refine bodyPost_ret (v:=tokV _) (results_c Tryz.results99 _ _ w.heap.size 29 _ (0,0) _ rfl ?_ Tryz.underlying29 rfl (by kernel_rfl)) rfl ⟨rfl,?_⟩
      · first | (with_reducible exact tok_set (blk_far (blk_far (blk_drewN hRB nq) (Ne.symm nbr) _) (Ne.symm nbr) _)) | (with_reducible exact tok_set (blk_far (blk_far (blk_far (blk_drewN hRB nq) nrt _) (Ne.symm nbr) _) (Ne.symm nbr) _))
      · (repeat (first | (with_reducible exact hS1.drewN nq) | (with_reducible refine ScStep.setNew ?_ (Nat.le_refl _) hbl _ _) | (with_reducible refine ScStep.setNew ?_ (Nat.le_of_lt hrt) hbl _ _) | (with_reducible refine ScStep.setCl (cl:=c) ?_) | (with_reducible refine ScStep.setAtI (a:=p) ?_ (p + n) _ (by omega))))
    · have hk1':=beq_iff_eq.mp hk1
      cases hq:Lx.isKey (s.extract p (p + n))
      · rw [hq] at hlk
        have HE:Aside0 (Lx.tokEnd s p c=(k,p + n)):=⟨by rw [HT.out,if_neg (fun e=>by rw [hq] at e;cases e.2)]⟩
        clear hk1'
        go_quiet (fail)
        go_wp2
        rw [HE.out]
        refine bodyPost_ret (v:=tokV _) (results_c Tryz.results99 _ _ w.heap.size 29 _ (0,0) _ rfl ?_ Tryz.underlying29 rfl (by kernel_rfl)) rfl ⟨rfl,?_⟩
        · first | (with_reducible exact tok_set (blk_far (blk_far (blk_drewN hRB nq) (Ne.symm nbr) _) (Ne.symm nbr) _)) | (with_reducible exact tok_set (blk_far (blk_far (blk_far (blk_drewN hRB nq) nrt _) (Ne.symm nbr) _) (Ne.symm nbr) _))
        · (repeat (first | (with_reducible exact hS1.drewN nq) | (with_reducible refine ScStep.setNew ?_ (Nat.le_refl _) hbl _ _) | (with_reducible refine ScStep.setNew ?_ (Nat.le_of_lt hrt) hbl _ _) | (with_reducible refine ScStep.setCl (cl:=c) ?_) | (with_reducible refine ScStep.setAtI (a:=p) ?_ (p + n) _ (by omega))))
      · rw [hq] at hlk
        have HE:Aside0 (Lx.tokEnd s p c=(2,p + n)):=⟨by rw [HT.out,if_pos ⟨hk1',hq⟩]⟩
        clear hk1'
        go_quiet (fail)
        go_wp2
        rw [HE.out]
        refine bodyPost_ret (v:=tokV _) (results_c Tryz.results99 _ _ w.heap.size 29 _ (0,0) _ rfl ?_ Tryz.underlying29 rfl (by kernel_rfl)) rfl ⟨rfl,?_⟩
        · first | (with_reducible exact tok_set (blk_far (blk_far (blk_drewN hRB nq) (Ne.symm nbr) _) (Ne.symm nbr) _)) | (with_reducible exact tok_set (blk_far (blk_far (blk_far (blk_drewN hRB nq) nrt _) (Ne.symm nbr) _) (Ne.symm nbr) _))
        · (repeat (first | (with_reducible exact hS1.drewN nq) | (with_reducible refine ScStep.setNew ?_ (Nat.le_refl _) hbl _ _) | (with_reducible refine ScStep.setNew ?_ (Nat.le_of_lt hrt) hbl _ _) | (with_reducible refine ScStep.setCl (cl:=c) ?_) | (with_reducible refine ScStep.setAtI (a:=p) ?_ (p + n) _ (by omega))))
theorem token_calls (b gb:Nat) (s:ByteArray) (a:Nat) (km:Value) (cl:Bool) (w:World) (hb:Sc w b s a km (.slice (some ⟨gb,0,none⟩) 47 47) cl) (hg:Sg w gb) (hkm:Km w km) (hs:s.size ≤ 1000000) (ha:a ≤ s.size) (hm:MaxLen w) (hb4:4 < b) (hgb:gb < w.heap.size) (hgb2:gb ≠ b) :
    Calls Tryz.prog 99 #[.pointer (some ⟨b,0,none⟩)] w fun e w' => ∃ (t:Lx.Tok) (a':Nat) (c:Bool),e=.returned (tokV t)∧ScStep w w' b s a' km (.slice (some ⟨gb,0,none⟩) 47 47) c∧a' ≤ s.size ∧
      (t.k=0∧Lx.toks s a cl=[t] ∨ t.k ≠ 0∧a < a'∧Lx.toks s a cl=t :: Lx.toks s a' c):=by
  have hst:=Lx.toks_step s a cl ha
  have hgp:=Lx.gap_b s a cl ha
  by_cases he:(Lx.gap s a cl).1=s.size
  · rw [if_pos he] at hst
    exact (token_end b s a km _ cl w hb hs ha hm hb4 he).mono fun e w' ⟨h1,c,h2⟩=>⟨_,s.size,c,h1,h2,Nat.le_refl _,.inl ⟨rfl,hst⟩⟩
  · rw [if_neg he] at hst
    have hlt:(Lx.gap s a cl).1 < s.size:=by omega
    have hb2:=Lx.tokEnd_b s (Lx.gap s a cl).1 (Lx.gap s a cl).2 hlt
    refine (token_main b gb s a km cl w hb hg hkm hs ha hm hb4 hgb hgb2 (Lx.gap s a cl).1 (Lx.gap s a cl).2 rfl hlt).mono fun e w' ⟨h1,h2⟩=>⟨_,_,false,h1,h2,hb2.2,.inr ⟨?_,by omega,hst⟩⟩
    show (Lx.tokEnd s (Lx.gap s a cl).1 (Lx.gap s a cl).2).1 ≠ 0
    unfold Lx.tokEnd
    (repeat' split) <;> simp <;> (try split) <;> omega
def Blanks (w : World) : Prop := Lib.TabIs Tryz.prog w "strings.asciiSpace" .u8 Lib.asciiSpaceTab
theorem Blanks.below {w w':World} (h:Blanks w) (hb:Below w.heap.size w w') (h0:0 < w.heap.size):Blanks w' :=
  var?_below hb (g:=0) (by kernel_rfl) h0 h
def strs (l:List (List UInt8)):Array Value:=(l.map fun x=>Value.string ⟨x.toArray⟩).toArray
theorem ascii_of {l:List UInt8} (h:(l.all fun b=>decide (b.toNat < 128))=true):∀ (j:Nat) b,l[j]? = some b → b.toNat < 128:=fun j b hj =>
  of_decide_eq_true (List.all_eq_true.1 h b (List.mem_of_getElem? hj))
theorem signs_calls (w:World) (hsp:Blanks w) :
    Calls Tryz.prog 97 #[] w fun e w'=>e=.returned (.slice (some ⟨w.heap.size,0,none⟩) 47 47)∧w.alloc (.cells (strs Lx.signs) 9)=w':=by
  go_enter Tryz.func97,Tryz.ntmps97
  go_wp2_with fail
  refine (Tryz.strings_Fields _ _ (by decide +kernel) (ascii_of (by decide +kernel)) hsp).mono ?_
  rintro e w' ⟨rfl,rfl⟩
  rw [show Lib.fields _=Lx.signs from by decide +kernel]
  go_wp2_with fail
  go_ret
  exact ⟨rfl,rfl⟩
theorem keys_calls (w:World) (hsp:Blanks w) :
    Calls Tryz.prog 98 #[] w fun e w'=>e=.returned (.slice (some ⟨w.heap.size,0,none⟩) 28 28)∧w.alloc (.cells (strs Lx.keys) 9)=w':=by
  go_enter Tryz.func98,Tryz.ntmps98
  go_wp2_with fail
  refine (Tryz.strings_Fields _ _ (by decide +kernel) (ascii_of (by decide +kernel)) hsp).mono ?_
  rintro e w' ⟨rfl,rfl⟩
  rw [show Lib.fields _=Lx.keys from by decide +kernel]
  go_wp2_with fail
  go_ret
  exact ⟨rfl,rfl⟩
theorem fold_at (l:List (List UInt8)) (t:List UInt8):∀ D:DataW Unit,Maps.IsMap D →
    ((l.map Lit.string).foldl (fun m x=>m.put x (.lit (.bool true))) D).atKey (.string t) (.lit (.bool false))=if l.contains t=true then .lit (.bool true) else D.atKey (.string t) (.lit (.bool false)):=by
  induction l with
  | nil=>intro D _;rfl
  | cons x r ih =>
    intro D hD
    simp only [List.map_cons,List.foldl_cons]
    rw [ih _ (hD.put _ _)]
    by_cases hr:r.contains t=true
    · rw [if_pos hr,if_pos (by rw [List.contains_cons,hr,Bool.or_true])]
    · rw [if_neg hr]
      by_cases hx:x=t
      · rw [if_pos (by rw [List.contains_cons,hx];simp),hx]
        exact Maps.atKey_put_same hD (by simp [WideAt.IsKeyLit]) _ _
      · rw [if_neg (by rw [List.contains_cons];simp [hr,Ne.symm hx];intro h;exact absurd h (by simpa using hr)),Maps.atKey_put_other (by intro e;exact hx (Lit.string.inj e).symm)]
def keyMap (l:List (List UInt8)):DataW Unit:=Maps.setOf (.lit (.bool true)) (l.map Lit.string)
theorem keyMap_at (l:List (List UInt8)) (t:List UInt8):(keyMap l).atKey (.string t) (.lit (.bool false))=.lit (.bool (l.contains t)):=by
  have h:=fold_at l t (.map []) ⟨[],rfl⟩
  show ((l.map Lit.string).foldl (fun (m:DataW Unit) x=>m.put x (.lit (.bool true))) (.map [])).atKey (.string t) (.lit (.bool false))=_
  rw [h]
  cases l.contains t <;> rfl
theorem keyMap_snoc (l:List (List UInt8)) (x:List UInt8):(keyMap l).put (.string x) (.lit (.bool true))=keyMap (l ++ [x]):=by
  unfold keyMap
  rw [List.map_append]
  exact (Maps.setOf_snoc _ _ _).symm
theorem zeroB (w:World):(zeroValue 4).run Tryz.prog w=.ok (.bool false) w:=by kernel_rfl
theorem key_law:Maps.Keyed Tryz.prog 9:=Maps.string_keyed Tryz.underlying9
def KeysAt (w:World) (mb:Nat) (i:Nat):Prop :=
  w.ownsMap Tryz.prog 9 (plainElem (H:=Unit) Tryz.prog 4) mb i (keyMap (Lx.keys.take i))
set_option maxRecDepth 100000 in
theorem plain_bool_inv {v:Value} {q:Bool} {ps:List MemPlace} (h:plainElem (H:=Unit) Tryz.prog 4 v=some (.lit (.bool q),ps)):v=.bool q:=by
  unfold plainElem at h
  rw [Tryz.underlying4] at h
  cases v <;> simp at h
  rw [h.1]
theorem km_of {w:World} {mb:Nat} (h:KeysAt w mb 28):Km w (.map (some mb)):=by
  obtain ⟨es,ck,hb,F,hs,hD⟩:=h
  refine ⟨mb,es,ck,rfl,hb,fun W hW t ht => ?_⟩
  have hO:W.ownsMap Tryz.prog 9 (plainElem (H:=Unit) Tryz.prog 4) mb 28 (keyMap (Lx.keys.take 28)):=⟨es,ck,hW,F,hs,hD⟩
  obtain ⟨v,ps,hrun,hv⟩:=hO.lookup key_law Tryz.underlying137 (zeroB W) (plainElem_bool Tryz.underlying4 false) (Go.WideMaps.keyOf_string_mk (s:=t) Tryz.underlying9 (by unfold maxLen;omega))
  rw [keyMap_at] at hv
  rw [hrun,plain_bool_inv hv]
  rfl
def tokCells (l:List Lx.Tok):List Value:=l.flatMap fun t=>[.int .i64 t.k,.string t.b,.string t.t,.int .i64 t.a]
theorem Km.keep {w w':World} {km:Value} {row:Option Nat} (h:Km w km) (hg:w.grownBy w' row) (hr:∀ mb,km=.map (some mb) → some mb ≠ row):Km w' km:=by
  obtain ⟨mb,es,ck,rfl,hb,hl⟩:=h
  exact ⟨mb,es,ck,rfl,(hg.block mb (blk_lt hb) (hr mb rfl)).trans hb,hl⟩
theorem Sg.keep {w w':World} {gb:Nat} {row:Option Nat} (h:Sg w gb) (hg:w.grownBy w' row) (hr:some gb ≠ row):Sg w' gb:=fun i g hi=>hg.cell (h i g hi) hr
theorem sg_of {w:World} {gb:Nat} (h:w.heap[gb]? = some (.cells (strs Lx.signs) 9 (0,0))):Sg w gb:=fun i g hi=>by
  rw [blk_cell h]
  unfold strs
  simp [hi]
theorem keycell_of {w:World} {gb:Nat} (h:w.heap[gb]? = some (.cells (strs Lx.keys) 9 (0,0))) (i:Nat) (g:List UInt8) (hi:Lx.keys[i]? = some g):w.cell? ⟨gb,i,none⟩=some (.string ⟨g.toArray⟩):=by
  rw [blk_cell h]
  unfold strs
  simp [hi]
theorem MaxLen.belowN {w w':World} {B:Nat} (h:MaxLen w) (hb:Below B w w') (hB:4 < B):MaxLen w':=by
  obtain ⟨m,hm⟩:=h
  exact ⟨m,(hb.cell (p:=⟨4,0,none⟩) hB).trans hm⟩
theorem own_lower {w:World} {base base':Nat} {e:TypeId} {size n:Nat} {v:Value} {xs:List Value} (h:w.ownsRow base e size v n xs) (hb:base' ≤ base):w.ownsRow base' e size v n xs:=by
  obtain ⟨h1,h2⟩:=h
  refine ⟨h1,h2.imp id ?_⟩
  rintro ⟨g,cap,cur,e1,e2,r⟩
  exact ⟨g,cap,cur,e1,Nat.le_trans hb e2,r⟩
theorem own_ne_of {w:World} {base:Nat} {e:TypeId} {size n:Nat} {v:Value} {xs:List Value} (h:w.ownsRow base e size v n xs) {b:Nat} (hb:b < base):v.ownBlock ≠ some b:=fun e'=>by
  have:=own_base h b e';omega
set_option maxRecDepth 100000 in
set_option maxHeartbeats 8000000 in
theorem lexScan_calls (s:ByteArray) (w:World) (hs:s.size ≤ 30000) (hm:MaxLen w) (hsp:Blanks w) (h5:5 ≤ w.heap.size) :
    Calls Tryz.prog 63 #[.string s] w fun e w' => ∃ v,e=.returned (.tuple #[v,.int .i64 0])∧w'.ownsRow w.heap.size 29 4 v (Lx.scan s).length (tokCells (Lx.scan s))∧Below w.heap.size w w':=by
  have h1:decide ((200000:Int) < (s.size:Int))=false:=by simp;omega
  have hmm:=@run_makeMap Tryz.prog
  have hB1:Below w.heap.size w (w.alloc (.map #[] 0)):=(Below.refl _ _).alloc (Nat.le_refl _) _
  have hsp1:=hsp.below hB1 (by omega)
  have h51:0 < w.heap.size:=by omega
  go_enter Tryz.func63,Tryz.ntmps63
  go_wp2_with (first | (go_at_call 97;(refine (signs_calls _ hsp1).mono ?_);rintro e w' ⟨rfl,rfl⟩) | (go_at_call 98;(refine (keys_calls _ ?_).mono ?_);exact hsp1.below (((Below.refl _ _).alloc (Nat.le_refl _) _).alloc (by simp) _) (by simp);rintro e w' ⟨rfl,rfl⟩))
  refine wp_gen (fun W=>KeysAt W w.heap.size 0∧Sg W (w.heap.size + 1)∧Sc W (w.heap.size + 1 + 1) s 0 (.map (some w.heap.size)) (.slice (some ⟨w.heap.size + 1,0,none⟩) 47 47) true ∧
    W.heap[w.heap.size + 1 + 1 + 1]? = some (.cells (strs Lx.keys) 9 (0,0))∧Below w.heap.size w W∧W.heap.size=w.heap.size + 4) ⟨?_,?_,?_,?_,?_,?_⟩ ?_
  · exact (((World.ownsMap_made _ _ _ _).alloc _).alloc _).alloc _
  · exact ((sg_of (blk_new_at (w.alloc (.map #[] 0)) _ _ (by simp))).alloc _).alloc _
  · exact blk_alloc (blk_new_at ((w.alloc (.map #[] 0)).alloc _) _ _ (by simp)) _
  · exact blk_new_at _ _ _ (by simp)
  · exact ((((Below.refl _ _).alloc (Nat.le_refl _) _).alloc (by simp) _).alloc (by simp;omega) _).alloc (by simp;omega) _
  · simp
  obtain ⟨n0,hn0⟩:∃ n0,w.heap.size=n0:=⟨_,rfl⟩
  rw [hn0]
  rintro W0 ⟨hK0,hG0,hS0,hKC0,hB0,hsz0⟩
  clear hmm hB1 hsp1 h51 hsp
  rw [hn0] at h5
  have HN:=mkA hn0
  clear hn0
  go_loopg [19] 28 (fun kq v19 W => ∃ i:Nat,v19=.int .i64 i∧Aside0 (i ≤ 28∧kq=28 - i)∧KeysAt W n0 i∧W0.grownBy W (some n0))
  case atStart=>exact ⟨0,rfl,⟨by omega,rfl⟩,hK0,World.grownBy.refl _ _⟩
  case round =>
    obtain ⟨i,rfl,HA,hown,hg⟩:=hrel
    have hi:=HA.out.1
    by_cases hlt:i < 28
    · have hgg:∃ g,Lx.keys[i]? = some g:=⟨_,List.getElem?_eq_getElem (show i < Lx.keys.length from hlt)⟩
      obtain ⟨g,hgi⟩:=hgg
      have hc:=keycell_of ((hg.block _ (by omega) (fun e=>by have:=Option.some.inj e;omega)).trans hKC0) i g hgi
      obtain ⟨ks,rfl⟩:∃ gs:ByteArray,g=gs.data.toList:=⟨⟨g.toArray⟩,rfl⟩
      have hc1:wr.cell? ⟨n0 + 1 + 1 + 1,i,none⟩=some (.string ks):=hc
      have hS1:Sc wr (n0 + 1 + 1) s 0 (.map (some n0)) (.slice (some ⟨n0 + 1,0,none⟩) 47 47) true:=(hg.block _ (by omega) (fun e=>by have:=Option.some.inj e;omega)).trans hS0
      obtain ⟨-,-,c2,-,-,-,-⟩:=hS1.cells
      have hkl:ks.size ≤ 8:=by
        have hall:(Lx.keys.all fun g=>decide (g.length ≤ 8))=true:=by decide
        have:=of_decide_eq_true (List.all_eq_true.1 hall _ (List.mem_of_getElem? hgi))
        rwa [data_length] at this
      have hkey:=WideMaps.keyOf_string_mk (s:=ks) Tryz.underlying9 (by unfold maxLen;omega)
      have HT:Aside0 (Lx.keys.take (i + 1)=Lx.keys.take i ++ [ks.data.toList]):=⟨by rw [List.take_add_one,hgi];rfl⟩
      have HK:=mkA hkey
      clear hc hgi hkey hS1
      go_wp2_with (at_mapUpdate;refine wpList_mapUpdate_own _ rfl _ _ _ 137 rfl 9 4 key_law Tryz.underlying137 _ n0 i _ rfl hown (by unfold maxLen;omega) _ _ _ rfl rfl HK.out _ [] (plainElem_bool Tryz.underlying4 true) ?_;intro w1 hown1 hgrow1)
      go_roundg (28 - (i + 1))
      case measure=>have:=HA.out;omega
      case rel=>exact ⟨i + 1,by go_num,⟨by omega,rfl⟩,by rw [KeysAt,HT.out,← keyMap_snoc];exact hown1,grown_trans hg hgrow1⟩
    · obtain rfl:i=28:=by omega
      have hkm:=km_of hown
      have hS1:Sc wr (n0 + 1 + 1) s 0 (.map (some n0)) (.slice (some ⟨n0 + 1,0,none⟩) 47 47) true:=(hg.block _ (by omega) (fun e=>by have:=Option.some.inj e;omega)).trans hS0
      have hG1:=hG0.keep hg (fun e=>by have:=Option.some.inj e;omega)
      have hB1:Below n0 w wr:=hB0.grown hg (by omega) (fun k hk=>by cases hk;exact Nat.le_refl _)
      have hsz1:n0 + 4 ≤ wr.heap.size:=by have:=hg.size;omega
      clear hK0 hG0 hS0 hKC0 hB0 hsz0 hg hown HA hi hlt
      go_wp2_with fail
      obtain ⟨base,hbase⟩:∃ base,wr.heap.size=base:=⟨_,rfl⟩
      rw [hbase] at hsz1
      have hbase1:base ≤ wr.heap.size:=by omega
      go_loopg [7] (s.size + 1) (fun kq v7 W => ∃ (done:List Lx.Tok) (a:Nat) (c:Bool),Aside0 (Lx.scan s=done ++ Lx.toks s a c∧a ≤ s.size∧done.length ≤ a∧kq=s.size + 1 - a) ∧
        Sc W (n0 + 1 + 1) s a (.map (some n0)) (.slice (some ⟨n0 + 1,0,none⟩) 47 47) c∧Sg W (n0 + 1)∧Km W (.map (some n0))∧W.ownsRow base 29 4 v7 done.length (tokCells done)∧Below n0 w W∧base ≤ W.heap.size)
      case atStart=>exact ⟨[],0,true,⟨rfl,Nat.zero_le _,Nat.le_refl _,rfl⟩,hS1,hG1,hkm,own_nil _ _ _ _,hB1,hbase1⟩
      case round =>
        clear hS1 hG1 hkm hB1 hbase hbase1
        obtain ⟨done,a,c,HA,hS,hG,hK,hown,hB,hbs⟩:=hrel
        have ha:=HA.out.2.1
        have hdl:done.length ≤ 30000:=by have:=HA.out.2.2.1;omega
        have hm1:MaxLen wr:=hm.belowN hB (by omega)
        go_wp2_with (first | (go_at_call 99;(refine (token_calls (n0 + 1 + 1) (n0 + 1) s a (.map (some n0)) c _ hS hG hK (by omega) ha hm1 (by omega) (by omega) (by omega)).mono ?_);rintro e w' ⟨t,a',c',rfl,hSS,ha',hcase⟩;unfold tokV;have hC:=mkA hcase;clear hcase;have ho1:=hown.kept hSS.2 (.inr (own_ne_of hown (by omega)));have hw':=hSS.2.size) | (at_builtin;refine print_append_cells (w0:=w'.alloc _) base rfl (.tmp 31) (.tmp 33) 22 29 (.agg #[.int .i64 0,.string ⟨#[]⟩,.string ⟨#[]⟩,.int .i64 0]) 4 48 rfl Tryz.underlying22 (by kernel_rfl) rfl (by decide) (by decide) u7 done.length (tokCells done) [.int .i64 t.k,.string t.b,.string t.t,.int .i64 t.a] rfl (by simp [Act.eval]) rfl (by simp [Value.oneCell']) (ho1.alloc _) (Below.refl _ _) (by simp;omega) (by omega) ?_;intro v1 w1 hv1 hb1 hg1 hat1;have hbox:=blk_grown (blk_new w' _) hg1 (fun e=>by have:=own_lt ho1 _ e.symm;omega);have bx0:=blk_cell hbox 0;simp at bx0;obtain ⟨A1,cc1,rfl⟩:=own_slice hv1;obtain ⟨M,hM⟩:∃ M,done.length + 1=M:=⟨_,rfl⟩;simp only [List.length_append,List.length_singleton,hM] at hv1 ⊢;have hgt:decide ((40000:Int) < (M:Int))=false:=(by simp;omega);have HM:=mkA hM;have HAT:=mkA hat1;have HB1:=mkA hb1;have HG1:=mkA hg1;have HO1:=mkA ho1;have HV1:=mkA hv1;have HSS:=mkA hSS;have HW':=mkA hw';have HBX:=mkA hbox;clear hat1 hb1 hg1 ho1 hv1 hSS hw' hM hbox;rcases hC.out with ⟨hk,hT⟩ | ⟨hk,hlt,hT⟩ <;> (first | (have hk0:(t.k == 0)=true:=beq_iff_eq.mpr hk) | (have hk0:(t.k == 0)=false:=beq_eq_false_iff_ne.mpr hk)) <;> (have HT:=mkA hT;clear hk hT)))
        all_goals (have hM:=HM.out;have hb1:=HB1.out;have hg1:=HG1.out;have ho1:=HO1.out;have hv1:=HV1.out;have hSS:=HSS.out;have hw':=HW'.out)
        all_goals have HW:w'.heap.size ≤ w1.heap.size:=by have:=hg1.size;simp at this;omega
        all_goals subst hM
        · have HL:Aside0 (Lx.scan s=done ++ [t]):=⟨by rw [HA.out.1,HT.out]⟩
          go_ret2
          refine ⟨_,rfl,?_,?_⟩
          · rw [HL.out,List.length_append]
            unfold tokCells
            rw [List.flatMap_append]
            exact own_lower hv1 (by have:=HN.out;omega)
          · rw [HN.out]
            exact ((hB.grown hSS.2 (by omega) (fun k hk=>by cases hk;omega)).alloc (by omega) _).grown hg1 (by simp;omega) (fun k hk=>by have:=own_base ho1 k hk;omega)
        · go_roundg (s.size + 1 - a')
          case measure=>have:=HA.out;omega
          case rel =>
            refine ⟨done ++ [t],a',c',⟨?_,ha',?_,rfl⟩,?_,?_,?_,?_,?_,by omega⟩
            · rw [HA.out.1,HT.out,List.append_assoc];rfl
            · have:=HA.out.2.2.1;rw [List.length_append,List.length_singleton];omega
            · exact blk_grown (blk_alloc hSS.1 _) hg1 (fun e=>by have:=own_base ho1 _ e.symm;omega)
            · exact (((hG.keep hSS.2 (fun e=>by have:=Option.some.inj e;omega)).alloc _).keep hg1 (fun e=>by have:=own_base ho1 _ e.symm;omega))
            · exact ((hK.keep hSS.2 (fun mb e=>by cases e;intro e2;have:=Option.some.inj e2;omega)).keep (World.grownBy_alloc _ _ none) (fun mb e=>by simp)).keep hg1 (fun mb e=>by cases e;intro e2;have:=own_base ho1 _ e2.symm;omega)
            · rw [List.length_append]
              unfold tokCells
              rw [List.flatMap_append]
              exact hv1
            · exact ((hB.grown hSS.2 (by omega) (fun k hk=>by cases hk;omega)).alloc (by omega) _).grown hg1 (by simp;omega) (fun k hk=>by have:=own_base ho1 k hk;omega)
end Go.Proofs.YtjnafjgonoficaaGreatDoor
