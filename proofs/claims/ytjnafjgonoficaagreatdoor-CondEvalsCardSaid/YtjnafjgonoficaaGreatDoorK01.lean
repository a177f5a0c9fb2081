/-
  The plain functions of the lexer: what lex.Scan and its reference compute of a text, by places. No program in sight. Conditions: none.
  What the lexer's small functions come to: bytes, names, numbers, quoted texts. Conditions: the scanner's cells lie in a block, and the text is short.
  What the lexer's names, numbers and quoted texts come to. Conditions: the scanner's cells lie in a block, and the text is short.
  Between the library's words on lists of bytes and the lexer's plain functions by places. No program in sight. Conditions: none.
-/
import Derived.WalkSpells
import Derived.Outline
import Derived.Lib.IndexBytes
import Derived.Lib.IndexMore
import Derived.Lib.IndexLaws
import Derived.Test.YtjnafjgonoficaaGreatDoorWWords
import Derived.Test.YtjnafjgonoficaaGreatDoorProg
namespace Go.Proofs.YtjnafjgonoficaaGreatDoor
open Go.RowKit Go.Proofs.YtjnafjgonoficaaGreatDoorW.PrintWords
set_option linter.unusedVariables false
namespace Lx

def isL (c : Int) : Bool := decide (97 ≤ c ∧ c ≤ 122 ∨ 65 ≤ c ∧ c ≤ 90 ∨ c = 95)
def isD (c : Int) : Bool := decide (48 ≤ c ∧ c ≤ 57)

/-- The byte at a place; 0 where there is none. -/
def B (s : ByteArray) (i : Nat) : Int := bt s (i : Int)

theorem B_ge {s : ByteArray} {i : Nat} (h : s.size ≤ i) : B s i = 0 := by
  unfold B bt; rw [dif_neg (by simp; omega)]
theorem B_lt_of_ne {s : ByteArray} {i : Nat} (h : B s i ≠ 0) : i < s.size := by
  by_cases hh : i < s.size
  · exact hh
  · exact absurd (B_ge (by omega)) h
theorem B_range (s : ByteArray) (i : Nat) : 0 ≤ B s i ∧ B s i ≤ 255 := bt_range s i

/-- Where letters and digits end. -/
def runW (s : ByteArray) (i : Nat) : Nat := if h : i < s.size then (if isL (B s i) || isD (B s i) then runW s (i + 1) else i) else i
  termination_by s.size - i
def nameEnd (s : ByteArray) (a : Nat) : Nat := if isL (B s a) then runW s a else a

/-- Where a number ends, from a place within it on. -/
def runN (s : ByteArray) (i : Nat) : Nat :=
  if h : i < s.size then
    (if isL (B s i) || isD (B s i) || decide (B s i = 46) || (decide (B s i = 43 ∨ B s i = 45) && decide (B s (i - 1) = 101 ∨ B s (i - 1) = 69)) then runN s (i + 1) else i)
  else i
  termination_by s.size - i
def numEnd (s : ByteArray) (a : Nat) : Nat :=
  if isD (B s a) || (decide (B s a = 46) && isD (B s (a + 1))) then runN s (a + 1) else a

/-- Where a quoted text ends; 'a' if it does not end in its line. -/
def runQ (s : ByteArray) (m : Int) (a i : Nat) : Nat :=
  if h : i < s.size then
    (if B s i = m then i + 1
     else if B s i = 10 then a
     else if B s i = 92 then (if B s (i + 1) = 10 then a else runQ s m a (i + 2))
     else runQ s m a (i + 1))
  else a
  termination_by s.size - i
def quoteEnd (s : ByteArray) (m : Int) (a : Nat) : Nat := if B s a = m then runQ s m a (a + 1) else a

/-- Where a preprocessor line ends that begins at 'a', from a place within it on. -/
def lineCut (s : ByteArray) (a i : Nat) : Nat := if a + 1 < i ∧ B s (i - 1) = 13 then i - 1 else i
def runL (s : ByteArray) (a i : Nat) : Nat :=
  if h : i < s.size then
    (if B s i = 10 ∧ ¬ (B s (i - 1) = 92 ∨ a + 2 ≤ i ∧ B s (i - 1) = 13 ∧ B s (i - 2) = 92) then lineCut s a i else runL s a (i + 1))
  else i
  termination_by s.size - i

/-- Where a comment that is closed ends, from a place within it on. -/
def runC (s : ByteArray) (i : Nat) : Nat :=
  if h : i < s.size then (if B s i = 42 ∧ B s (i + 1) = 47 then i + 2 else runC s (i + 1)) else s.size
  termination_by s.size - i
/-- Where a comment to the line's end ends. -/
def runS (s : ByteArray) (i : Nat) : Nat :=
  if h : i < s.size then (if B s i = 10 then i else runS s (i + 1)) else i
  termination_by s.size - i
def commentEnd (s : ByteArray) (a : Nat) : Nat :=
  if B s a = 47 ∧ B s (a + 1) = 47 then runS s a else if B s a = 47 ∧ B s (a + 1) = 42 then runC s (a + 2) else a
def pieceEnd (s : ByteArray) (a : Nat) : Nat :=
  if B s a = 32 ∨ B s a = 9 ∨ B s a = 10 ∨ B s a = 11 ∨ B s a = 12 ∨ B s a = 13 then a + 1
  else if B s a = 92 then (if B s (a + 1) = 10 then a + 2 else if B s (a + 1) = 13 ∧ B s (a + 2) = 10 then a + 3 else a)
  else commentEnd s a
/-- Is there a line feed between two places? -/
def hasLf (s : ByteArray) (i e : Nat) : Bool := if h : i < e then (decide (B s i = 10) || hasLf s (i + 1) e) else false
  termination_by e - i
def firstBehind (s : ByteArray) (a e : Nat) (first : Bool) : Bool :=
  if e = a + 1 ∧ (B s a = 11 ∨ B s a = 12 ∨ B s a = 13) then false else (first || hasLf s a e)

def keys : List (List UInt8) := [[98, 114, 101, 97, 107], [99, 97, 115, 101], [99, 104, 97, 114], [99, 111, 110, 115, 116], [99, 111, 110, 116, 105, 110, 117, 101], [100, 101, 102, 97, 117, 108, 116], [100, 111], [101, 108, 115, 101], [101, 110, 117, 109], [101, 120, 116, 101, 114, 110], [102, 111, 114], [103, 111, 116, 111], [105, 102], [105, 110, 116], [108, 111, 110, 103], [114, 101, 116, 117, 114, 110], [115, 104, 111, 114, 116], [115, 105, 103, 110, 101, 100], [115, 105, 122, 101, 111, 102], [115, 116, 97, 116, 105, 99], [115, 116, 114, 117, 99, 116], [115, 119, 105, 116, 99, 104], [116, 121, 112, 101, 100, 101, 102], [117, 110, 105, 111, 110], [117, 110, 115, 105, 103, 110, 101, 100], [118, 111, 105, 100], [118, 111, 108, 97, 116, 105, 108, 101], [119, 104, 105, 108, 101]]
def signs : List (List UInt8) := [[46, 46, 46], [60, 60, 61], [62, 62, 61], [60, 60], [62, 62], [60, 61], [62, 61], [61, 61], [33, 61], [38, 38], [124, 124], [43, 43], [45, 45], [43, 61], [45, 61], [42, 61], [47, 61], [37, 61], [38, 61], [124, 61], [94, 61], [45, 62], [43], [45], [42], [47], [37], [38], [124], [94], [33], [126], [60], [62], [61], [63], [58], [59], [44], [46], [40], [41], [91], [93], [123], [125], [35]]
def isKey (t : ByteArray) : Bool := keys.contains t.data.toList
/-- Does a text begin at a place? -/
def begins (s : ByteArray) (a : Nat) (g : List UInt8) : Bool := g.isPrefixOf (s.data.toList.drop a)
/-- The length of the longest sign of a list that begins at a place, or n. -/
def signOf (s : ByteArray) (a : Nat) : List (List UInt8) → Nat → Nat
  | [], n => n
  | g :: r, n => signOf s a r (if n < g.length ∧ begins s a g = true then g.length else n)
def signLen (s : ByteArray) (a : Nat) : Nat := signOf s a signs 0

/-- What stands before a token: where it ends, and whether a line may begin there. -/
def gap (s : ByteArray) (a : Nat) (first : Bool) : Nat × Bool :=
  if h : a < s.size ∧ a < pieceEnd s a then gap s (pieceEnd s a) (firstBehind s a (pieceEnd s a) first) else (a, first)
  termination_by s.size - a

/-- A token's kind, and where it ends. -/
def tokEnd (s : ByteArray) (a : Nat) (first : Bool) : Int × Nat :=
  if first = true ∧ B s a = 35 then (7, runL s a a)
  else if isL (B s a) = true then (if isKey (s.extract a (runW s a)) then 2 else 1, runW s a)
  else if isD (B s a) || (decide (B s a = 46) && isD (B s (a + 1))) then (3, runN s (a + 1))
  else if B s a = 39 ∨ B s a = 34 then
    (if quoteEnd s (B s a) a = a then (8, a + 1) else (if B s a = 34 then 5 else 4, quoteEnd s (B s a) a))
  else if signLen s a = 0 then (8, a + 1) else (6, a + signLen s a)

/-- A token. -/
structure Tok where
  k : Int
  b : ByteArray
  t : ByteArray
  a : Int

/-- The tokens from a place on; what stands before the first one begins at 'a'. -/
def toks (s : ByteArray) (a : Nat) (first : Bool) : List Tok :=
  if h : a ≤ (gap s a first).1 ∧ (gap s a first).1 < s.size ∧ (gap s a first).1 < (tokEnd s (gap s a first).1 (gap s a first).2).2 then
    ⟨(tokEnd s (gap s a first).1 (gap s a first).2).1, s.extract a (gap s a first).1, s.extract (gap s a first).1 (tokEnd s (gap s a first).1 (gap s a first).2).2, ((gap s a first).1 : Nat)⟩ ::
      toks s (tokEnd s (gap s a first).1 (gap s a first).2).2 false
  else [⟨0, s.extract a s.size, ⟨#[]⟩, (s.size : Nat)⟩]
  termination_by s.size - a
def scan (s : ByteArray) : List Tok := toks s 0 true

/-! ### how far they go -/
theorem runW_ge (s : ByteArray) (i : Nat) : i ≤ runW s i := by
  unfold runW; split
  · split
    · have := runW_ge s (i + 1); omega
    · omega
  · omega
  termination_by s.size - i
theorem runW_le (s : ByteArray) (i : Nat) (h : i ≤ s.size) : runW s i ≤ s.size := by
  unfold runW; split
  · split
    · exact runW_le s (i + 1) (by omega)
    · omega
  · omega
  termination_by s.size - i
theorem runN_ge (s : ByteArray) (i : Nat) : i ≤ runN s i := by
  unfold runN; split
  · split
    · have := runN_ge s (i + 1); omega
    · omega
  · omega
  termination_by s.size - i
theorem runN_le (s : ByteArray) (i : Nat) (h : i ≤ s.size) : runN s i ≤ s.size := by
  unfold runN; split
  · split
    · exact runN_le s (i + 1) (by omega)
    · omega
  · omega
  termination_by s.size - i
theorem runQ_b (s : ByteArray) (m : Int) (a i : Nat) (ha : a < s.size) (hi : a < i) : (runQ s m a i = a ∨ i < runQ s m a i) ∧ runQ s m a i ≤ s.size := by
  unfold runQ; split
  · split
    · exact ⟨.inr (by omega), by omega⟩
    · split
      · exact ⟨.inl rfl, by omega⟩
      · split
        · split
          · exact ⟨.inl rfl, by omega⟩
          · have := runQ_b s m a (i + 2) ha (by omega); omega
        · have := runQ_b s m a (i + 1) ha (by omega); omega
  · exact ⟨.inl rfl, by omega⟩
  termination_by s.size - i
theorem lineCut_b (s : ByteArray) (a i : Nat) (h : a < i) : a < lineCut s a i ∧ lineCut s a i ≤ i := by unfold lineCut; split <;> omega
theorem runL_b (s : ByteArray) (a i : Nat) (ha : a < i) (hi : i ≤ s.size) : a < runL s a i ∧ runL s a i ≤ s.size := by
  unfold runL; split
  · split
    · have := lineCut_b s a i ha; omega
    · exact runL_b s a (i + 1) (by omega) (by omega)
  · omega
  termination_by s.size - i
theorem runL_first (s : ByteArray) (a : Nat) (h : B s a = 35) : runL s a a = runL s a (a + 1) := by
  conv => lhs; unfold runL
  rw [dif_pos (B_lt_of_ne (by rw [h]; decide)), if_neg (by rw [h]; simp)]
theorem runC_b (s : ByteArray) (i : Nat) (h : i ≤ s.size) : i ≤ runC s i ∧ runC s i ≤ s.size := by
  unfold runC; split
  · split
    · rename_i hh hc
      have := B_lt_of_ne (s := s) (i := i + 1) (by rw [hc.2]; decide)
      omega
    · have := runC_b s (i + 1) (by omega); omega
  · omega
  termination_by s.size - i
theorem runS_b (s : ByteArray) (i : Nat) (h : i ≤ s.size) : i ≤ runS s i ∧ runS s i ≤ s.size := by
  unfold runS; split
  · split
    · omega
    · have := runS_b s (i + 1) (by omega); omega
  · omega
  termination_by s.size - i
theorem signOf_b (s : ByteArray) (a : Nat) : ∀ (l : List (List UInt8)) (n : Nat), n ≤ s.size - a → signOf s a l n ≤ s.size - a
  | [], n, h => h
  | g :: r, n, h => by
    unfold signOf
    refine signOf_b s a r _ ?_
    split
    · rename_i hc
      have h1 := (List.isPrefixOf_iff_prefix.1 hc.2).length_le
      rw [List.length_drop, data_length] at h1
      omega
    · exact h
theorem commentEnd_b (s : ByteArray) (a : Nat) (h : a ≤ s.size) : a ≤ commentEnd s a ∧ commentEnd s a ≤ s.size := by
  unfold commentEnd; split
  · exact runS_b s a h
  · split
    · rename_i hc
      have := B_lt_of_ne (s := s) (i := a + 1) (by rw [hc.2]; decide)
      have := runC_b s (a + 2) (by omega); omega
    · omega
theorem pieceEnd_b (s : ByteArray) (a : Nat) (h : a < s.size) : a ≤ pieceEnd s a ∧ pieceEnd s a ≤ s.size := by
  unfold pieceEnd; split
  · omega
  · split
    · split
      · rename_i hc
        have := B_lt_of_ne (s := s) (i := a + 1) (by rw [hc]; decide)
        omega
      · split
        · rename_i hc
          have := B_lt_of_ne (s := s) (i := a + 2) (by rw [hc.2]; decide)
          omega
        · omega
    · exact commentEnd_b s a (by omega)
theorem gap_b (s : ByteArray) (a : Nat) (f : Bool) (h : a ≤ s.size) : a ≤ (gap s a f).1 ∧ (gap s a f).1 ≤ s.size := by
  unfold gap; split
  · rename_i hc
    have h1 := pieceEnd_b s a hc.1
    have := gap_b s (pieceEnd s a) (firstBehind s a (pieceEnd s a) f) h1.2
    omega
  · exact ⟨Nat.le_refl _, h⟩
  termination_by s.size - a
theorem tokEnd_b (s : ByteArray) (a : Nat) (f : Bool) (h : a < s.size) : a < (tokEnd s a f).2 ∧ (tokEnd s a f).2 ≤ s.size := by
  unfold tokEnd; split
  · rename_i hc; rw [runL_first s a hc.2]; exact runL_b s a (a + 1) (by omega) (by omega)
  · split
    · rename_i hc
      refine ⟨?_, runW_le s a (by omega)⟩
      show a < runW s a
      unfold runW
      rw [dif_pos h, if_pos (by simp [hc])]
      have := runW_ge s (a + 1); omega
    · split
      · have := runN_ge s (a + 1); have := runN_le s (a + 1) (by omega)
        exact ⟨by show a < runN s (a + 1); omega, this⟩
      · split
        · split
          · exact ⟨by show a < a + 1; omega, by show a + 1 ≤ _; omega⟩
          · rename_i hq
            have hb : quoteEnd s (B s a) a = runQ s (B s a) a (a + 1) := by unfold quoteEnd; rw [if_pos rfl]
            have := runQ_b s (B s a) a (a + 1) h (by omega)
            show a < quoteEnd s (B s a) a ∧ quoteEnd s (B s a) a ≤ s.size
            rw [hb] at hq ⊢; omega
        · split
          · exact ⟨by show a < a + 1; omega, by show a + 1 ≤ _; omega⟩
          · have : signLen s a ≤ s.size - a := signOf_b s a signs 0 (by omega)
            exact ⟨by show a < a + signLen s a; omega, by show a + signLen s a ≤ _; omega⟩
/-- One token. -/
theorem toks_step (s : ByteArray) (a : Nat) (f : Bool) (h : a ≤ s.size) : toks s a f =
    if (gap s a f).1 = s.size then [⟨0, s.extract a s.size, ⟨#[]⟩, (s.size : Nat)⟩]
    else ⟨(tokEnd s (gap s a f).1 (gap s a f).2).1, s.extract a (gap s a f).1, s.extract (gap s a f).1 (tokEnd s (gap s a f).1 (gap s a f).2).2, ((gap s a f).1 : Nat)⟩ ::
      toks s (tokEnd s (gap s a f).1 (gap s a f).2).2 false := by
  have h1 := gap_b s a f h
  conv => lhs; unfold toks
  by_cases he : (gap s a f).1 = s.size
  · rw [if_pos he, dif_neg (by omega)]
  · have h2 := tokEnd_b s (gap s a f).1 (gap s a f).2 (by omega)
    rw [if_neg he, dif_pos ⟨h1.1, by omega, h2.1⟩]
end Lx
end Go.Proofs.YtjnafjgonoficaaGreatDoor
namespace Go.Proofs.YtjnafjgonoficaaGreatDoor
open Go.RowKit Go.Proofs.YtjnafjgonoficaaGreatDoorW.PrintWords
set_option linter.unusedVariables false
set_option linter.unusedSimpArgs false

/-- The scanner's block. -/
def Sc (w : World) (b : Nat) (s : ByteArray) (a : Nat) (km sg : Value) (cl : Bool) : Prop :=
  w.heap[b]? = some (.cells #[.string s, .int .i64 a, km, sg, .bool cl] 140 (0, 0))
theorem Sc.drewN {w : World} {b : Nat} {s : ByteArray} {a : Nat} {km sg : Value} {cl : Bool} (h : Sc w b s a km sg cl) (n : Nat) : Sc (w.drewN n) b s a km sg cl := h
theorem Sc.drawn {w w' : World} {b : Nat} {s : ByteArray} {a : Nat} {km sg : Value} {cl : Bool} (h : Sc w b s a km sg cl) (hd : Drawn0 w w') : Sc w' b s a km sg cl := by
  obtain ⟨n, rfl⟩ := hd; exact h
theorem Sc.cells {w : World} {b : Nat} {s : ByteArray} {a : Nat} {km sg : Value} {cl : Bool} (h : Sc w b s a km sg cl) :
    w.cell? ⟨b, 0, none⟩ = some (.string s) ∧ w.cell? ⟨b, 1, none⟩ = some (.int .i64 a) ∧ w.cell? ⟨b, 2, none⟩ = some km ∧ w.cell? ⟨b, 3, none⟩ = some sg ∧ w.cell? ⟨b, 4, none⟩ = some (.bool cl) ∧
    w.frozen? ⟨b, 1, none⟩ = false ∧ w.frozen? ⟨b, 4, none⟩ = false := by
  refine ⟨?_, ?_, ?_, ?_, ?_, blk_frozen h 1, blk_frozen h 4⟩ <;> (rw [blk_cell h]; rfl)

theorem drawn_refl2 (w : World) (n m : Nat) : Drawn0 w ((w.drewN n).drewN m) := ⟨⟨n + m, by rw [World.drewN_drewN]⟩⟩

theorem isLetter_calls (c : Int) (w : World) :
    Calls Tryz.prog 163 #[.int .u8 c] w fun e w' => e = .returned (.bool (Lx.isL c)) ∧ w = w' := by
  by_cases h1 : 97 ≤ c
  all_goals by_cases h2 : c ≤ 122
  all_goals by_cases h3 : 65 ≤ c
  all_goals by_cases h4 : c ≤ 90
  all_goals by_cases h5 : c = 95
  all_goals try omega
  all_goals
    have e : Lx.isL c = decide (97 ≤ c ∧ c ≤ 122 ∨ 65 ≤ c ∧ c ≤ 90 ∨ c = 95) := rfl
    simp only [h1, h2, h3, h4, h5] at e
    have E := Aside0.mk e
    clear e
    go_enter Tryz.func163, Tryz.ntmps163
    go_wp2
    go_ret
    exact ⟨by rw [E.out]; simp [*], rfl⟩
theorem isDigit_calls (c : Int) (w : World) :
    Calls Tryz.prog 164 #[.int .u8 c] w fun e w' => e = .returned (.bool (Lx.isD c)) ∧ w = w' := by
  by_cases h1 : 48 ≤ c
  all_goals by_cases h2 : c ≤ 57
  all_goals
    have e : Lx.isD c = decide (48 ≤ c ∧ c ≤ 57) := rfl
    simp only [h1, h2] at e
    have E := Aside0.mk e
    clear e
    go_enter Tryz.func164, Tryz.ntmps164
    go_wp2
    go_ret
    exact ⟨by rw [E.out]; simp, rfl⟩

theorem rest_calls (b : Nat) (s : ByteArray) (a : Nat) (km sg : Value) (cl : Bool) (w : World) (hb : Sc w b s a km sg cl) (h : a ≤ s.size) :
    Calls Tryz.prog 159 #[.pointer (some ⟨b, 0, none⟩)] w fun e w' => e = .returned (.string (s.extract a s.size)) ∧ Drawn0 w w' := by
  obtain ⟨c0, c1, -, -, -, -, -⟩ := hb.cells
  clear hb
  go_enter Tryz.func159, Tryz.ntmps159
  go_wp2
  go_quiet (fail)
  go_wp2
  go_ret
  exact ⟨rfl, ⟨⟨_, rfl⟩⟩⟩

theorem next_lt (b : Nat) (s : ByteArray) (a : Nat) (n j : Int) (km sg : Value) (cl : Bool) (w : World)
    (hb : Sc w b s a km sg cl) (hj : (a : Int) + n = j) (h0 : 0 ≤ j) (h1 : j < s.size) (hs : s.size ≤ 4611686018427387903) :
    Calls Tryz.prog 157 #[.pointer (some ⟨b, 0, none⟩), .int .i64 n] w fun e w' => e = .returned (.int .u8 (bt s j)) ∧ Drawn0 w w' := by
  obtain ⟨c0, c1, -, -, -, -, -⟩ := hb.cells
  clear hb
  have hw : IntKind.i64.wrap (a + n) = j := by rw [IntWalk.i64_in _ (by omega)]; omega
  have hd : decide ((s.size : Int) ≤ j) = false := by simp; omega
  have hx := bt_at s j
  have h2 : j.toNat < s.size := by omega
  clear hj
  replace h0 := eq_true h0
  replace h1 := eq_true h1
  go_enter Tryz.func157, Tryz.ntmps157
  go_wp2
  go_quiet (fail)
  go_wp2
  go_quiet (fail)
  go_wp2
  go_ret
  exact ⟨by simp, drawn_refl2 _ _ _⟩
theorem next_ge (b : Nat) (s : ByteArray) (a : Nat) (n j : Int) (km sg : Value) (cl : Bool) (w : World)
    (hb : Sc w b s a km sg cl) (hj : (a : Int) + n = j) (h1 : s.size ≤ j) (h2 : j ≤ 4611686018427387903) :
    Calls Tryz.prog 157 #[.pointer (some ⟨b, 0, none⟩), .int .i64 n] w fun e w' => e = .returned (.int .u8 (bt s j)) ∧ Drawn0 w w' := by
  obtain ⟨c0, c1, -, -, -, -, -⟩ := hb.cells
  clear hb
  have hw : IntKind.i64.wrap (a + n) = j := by rw [IntWalk.i64_in _ (by omega)]; omega
  have hd : decide ((s.size : Int) ≤ j) = true := by simp; omega
  clear hj
  go_enter Tryz.func157, Tryz.ntmps157
  go_wp2
  go_quiet (fail)
  go_wp2
  go_ret
  exact ⟨by simp [bt, show ¬ j.toNat < s.size by omega], ⟨⟨_, rfl⟩⟩⟩
/-- The byte some places on. -/
theorem next_calls (b : Nat) (s : ByteArray) (a : Nat) (n : Int) (km sg : Value) (cl : Bool) (w : World)
    (hb : Sc w b s a km sg cl) (hs : s.size ≤ 1000000) (ha : a ≤ s.size) (h0 : 0 ≤ n) (h1 : n ≤ 2000000) :
    Calls Tryz.prog 157 #[.pointer (some ⟨b, 0, none⟩), .int .i64 n] w fun e w' => e = .returned (.int .u8 (Lx.B s (a + n.toNat))) ∧ Drawn0 w w' := by
  have e : Lx.B s (a + n.toNat) = bt s (a + n) := by unfold Lx.B; congr 1; omega
  rw [e]
  by_cases h : (a : Int) + n < s.size
  · exact next_lt b s a n _ km sg cl w hb rfl (by omega) h (by omega)
  · exact next_ge b s a n _ km sg cl w hb rfl (by omega) (by omega)
end Go.Proofs.YtjnafjgonoficaaGreatDoor
namespace Go.Proofs.YtjnafjgonoficaaGreatDoor
open Go.RowKit Go.Proofs.YtjnafjgonoficaaGreatDoorW.PrintWords
set_option linter.unusedVariables false
set_option linter.unusedSimpArgs false

theorem name_calls (b : Nat) (s : ByteArray) (a : Nat) (km sg : Value) (cl : Bool) (w : World) (hb : Sc w b s a km sg cl) (hs : s.size ≤ 1000000) (ha : a ≤ s.size) :
    Calls Tryz.prog 132 #[.pointer (some ⟨b, 0, none⟩)] w fun e w' => e = .returned (.int .i64 ((Lx.nameEnd s a - a : Nat) : Int)) ∧ Drawn0 w w' := by
  by_cases hl : Lx.isL (Lx.B s a) = true
  · have E : Aside0 (Lx.nameEnd s a = Lx.runW s a) := ⟨by unfold Lx.nameEnd; rw [if_pos hl]⟩
    have hl0 : Lx.isL (Lx.B s (a + (0 : Int).toNat)) = true := hl
    go_enter Tryz.func132, Tryz.ntmps132
    go_wp2_with (first | (go_at_call 157; (with_reducible refine (next_calls b s a (0) km sg cl _ ?_ hs (by omega) (by omega) (by omega)).mono ?_); exact hb; rintro e w' ⟨rfl, ⟨nd, rfl⟩⟩) | (go_at_call 163; (with_reducible refine (isLetter_calls _ _).mono ?_); rintro e w' ⟨rfl, rfl⟩))
    go_loopg [3] (s.size - a) (fun kq v3 w' => ∃ n : Nat, v3 = .int .i64 n ∧ Aside0 (a + n ≤ s.size ∧ Lx.runW s (a + n) = Lx.runW s a ∧ kq = s.size - (a + n)) ∧ Drawn0 w w')
    case atStart => exact ⟨0, rfl, ⟨ha, rfl, by omega⟩, (by repeat (first | exact Drawn0.refl _ | assumption | apply Drawn0.step))⟩
    case round =>
      clear hl hl0
      obtain ⟨n, rfl, HA, ⟨m, rfl⟩⟩ := hrel
      have hn := HA.out.1
      have hx : Aside0 (Lx.runW s (a + n) = if (Lx.isL (Lx.B s (a + n)) || Lx.isD (Lx.B s (a + n))) = true then Lx.runW s (a + n + 1) else a + n) := ⟨by
        conv => lhs; unfold Lx.runW
        split
        · rfl
        · rw [Lx.B_ge (by omega)]; rfl⟩
      by_cases h1 : Lx.isL (Lx.B s (a + n)) = true
      · have hlt := Lx.B_lt_of_ne (s := s) (i := a + n) (fun e => by rw [e] at h1; revert h1; decide)
        have hx' := hx.out
        rw [h1, Bool.true_or, if_pos rfl] at hx'
        have hx1 := Aside0.mk hx'
        clear hx hx'
        go_wp2_with (first | (go_at_call 157; (with_reducible refine (next_calls b s a ((n : Int)) km sg cl _ ?_ hs (by omega) (by omega) (by omega)).mono ?_); exact hb; rintro e w' ⟨rfl, ⟨nd, rfl⟩⟩) | (go_at_call 163; (with_reducible refine (isLetter_calls _ _).mono ?_); rintro e w' ⟨rfl, rfl⟩) | (go_at_call 164; (with_reducible refine (isDigit_calls _ _).mono ?_); rintro e w' ⟨rfl, rfl⟩))
        go_roundg (s.size - (a + (n + 1)))
        case measure => have := HA.out; omega
        case rel => exact ⟨n + 1, by go_num, ⟨by omega, by rw [← HA.out.2.1, hx1.out]; rfl, rfl⟩, (by repeat (first | exact Drawn0.refl _ | assumption | apply Drawn0.step))⟩
      · have h1' := Bool.eq_false_iff.mpr h1
        clear h1
        by_cases h2 : Lx.isD (Lx.B s (a + n)) = true
        · have hlt := Lx.B_lt_of_ne (s := s) (i := a + n) (fun e => by rw [e] at h2; revert h2; decide)
          have hx' := hx.out
          rw [h2, Bool.or_true, if_pos rfl] at hx'
          have hx1 := Aside0.mk hx'
          clear hx hx'
          go_wp2_with (first | (go_at_call 157; (with_reducible refine (next_calls b s a ((n : Int)) km sg cl _ ?_ hs (by omega) (by omega) (by omega)).mono ?_); exact hb; rintro e w' ⟨rfl, ⟨nd, rfl⟩⟩) | (go_at_call 163; (with_reducible refine (isLetter_calls _ _).mono ?_); rintro e w' ⟨rfl, rfl⟩) | (go_at_call 164; (with_reducible refine (isDigit_calls _ _).mono ?_); rintro e w' ⟨rfl, rfl⟩))
          go_roundg (s.size - (a + (n + 1)))
          case measure => have := HA.out; omega
          case rel => exact ⟨n + 1, by go_num, ⟨by omega, by rw [← HA.out.2.1, hx1.out]; rfl, rfl⟩, (by repeat (first | exact Drawn0.refl _ | assumption | apply Drawn0.step))⟩
        · have h2' := Bool.eq_false_iff.mpr h2
          clear h2
          have hx' := hx.out
          rw [h1', h2', Bool.or_self, if_neg Bool.false_ne_true] at hx'
          have hx1 := Aside0.mk hx'
          clear hx hx'
          go_wp2_with (first | (go_at_call 157; (with_reducible refine (next_calls b s a ((n : Int)) km sg cl _ ?_ hs (by omega) (by omega) (by omega)).mono ?_); exact hb; rintro e w' ⟨rfl, ⟨nd, rfl⟩⟩) | (go_at_call 163; (with_reducible refine (isLetter_calls _ _).mono ?_); rintro e w' ⟨rfl, rfl⟩) | (go_at_call 164; (with_reducible refine (isDigit_calls _ _).mono ?_); rintro e w' ⟨rfl, rfl⟩))
          go_ret
          exact ⟨by rw [E.out, ← HA.out.2.1, hx1.out]; simp, (by repeat (first | exact Drawn0.refl _ | assumption | apply Drawn0.step))⟩
  · have hl' := Bool.eq_false_iff.mpr hl
    have E : Aside0 (Lx.nameEnd s a = a) := ⟨by unfold Lx.nameEnd; rw [if_neg hl]⟩
    have hl0 : Lx.isL (Lx.B s (a + (0 : Int).toNat)) = false := hl'
    clear hl
    go_enter Tryz.func132, Tryz.ntmps132
    go_wp2_with (first | (go_at_call 157; (with_reducible refine (next_calls b s a (0) km sg cl _ ?_ hs (by omega) (by omega) (by omega)).mono ?_); exact hb; rintro e w' ⟨rfl, ⟨nd, rfl⟩⟩) | (go_at_call 163; (with_reducible refine (isLetter_calls _ _).mono ?_); rintro e w' ⟨rfl, rfl⟩))
    go_ret
    exact ⟨by rw [E.out]; simp, (by repeat (first | exact Drawn0.refl _ | assumption | apply Drawn0.step))⟩

def contN (c l : Int) : Bool := Lx.isL c || Lx.isD c || decide (c = 46) || (decide (c = 43 ∨ c = 45) && decide (l = 101 ∨ l = 69))
theorem runN_eq (s : ByteArray) (i : Nat) : Lx.runN s i = if contN (Lx.B s i) (Lx.B s (i - 1)) = true then Lx.runN s (i + 1) else i := by
  conv => lhs; unfold Lx.runN
  split
  · rfl
  · rw [Lx.B_ge (by omega)]; rfl
theorem number_yes (b : Nat) (s : ByteArray) (a : Nat) (km sg : Value) (cl : Bool) (w : World) (hb : Sc w b s a km sg cl) (hs : s.size ≤ 1000000) (ha : a ≤ s.size)
    (h01 : (Lx.isD (Lx.B s a) || (decide (Lx.B s a = 46) && Lx.isD (Lx.B s (a + 1)))) = true) :
    Calls Tryz.prog 133 #[.pointer (some ⟨b, 0, none⟩)] w fun e w' => e = .returned (.int .i64 ((Lx.numEnd s a - a : Nat) : Int)) ∧ Drawn0 w w' := by
  have E : Aside0 (Lx.numEnd s a = Lx.runN s (a + 1)) := ⟨by unfold Lx.numEnd; rw [if_pos h01]⟩
  have hlt0 : a < s.size := Lx.B_lt_of_ne (fun e => by rw [e] at h01; revert h01; simp [show Lx.isD 0 = false from rfl])
  have F : Aside0 (Lx.isD (Lx.B s a) = true ∨ Lx.isD (Lx.B s a) = false ∧ (Lx.B s a != 46) = false ∧ Lx.isD (Lx.B s (a + 1)) = true) := ⟨by
    cases h : Lx.isD (Lx.B s a)
    · rw [h, Bool.false_or, Bool.and_eq_true, decide_eq_true_eq] at h01
      exact .inr ⟨rfl, by simp [h01.1], h01.2⟩
    · exact .inl rfl⟩
  clear h01
  rcases F.out with h | ⟨h, h2, h3⟩
  all_goals
    clear F
    go_enter Tryz.func133, Tryz.ntmps133
    go_wp2_with (first | (go_at_call 157; (with_reducible refine (next_calls b s a (0) km sg cl _ ?_ hs (by omega) (by omega) (by omega)).mono ?_); exact hb; rintro e w' ⟨rfl, ⟨nd, rfl⟩⟩) | (go_at_call 157; (with_reducible refine (next_calls b s a (1) km sg cl _ ?_ hs (by omega) (by omega) (by omega)).mono ?_); exact hb; rintro e w' ⟨rfl, ⟨nd, rfl⟩⟩) | (go_at_call 163; (with_reducible refine (isLetter_calls _ _).mono ?_); rintro e w' ⟨rfl, rfl⟩) | (go_at_call 164; (with_reducible refine (isDigit_calls _ _).mono ?_); rintro e w' ⟨rfl, rfl⟩))
    go_loopg [3] (s.size - (a + 1)) (fun kq v3 w' => ∃ n : Nat, v3 = .int .i64 n ∧ Aside0 (1 ≤ n ∧ a + n ≤ s.size ∧ Lx.runN s (a + n) = Lx.runN s (a + 1) ∧ kq = s.size - (a + n)) ∧ Drawn0 w w')
    case atStart => exact ⟨1, rfl, ⟨by omega, by omega, rfl, by omega⟩, (by repeat (first | exact Drawn0.refl _ | assumption | apply Drawn0.step))⟩
    case round =>
      first | clear h h2 h3 | clear h
      obtain ⟨n, rfl, HA, ⟨m, rfl⟩⟩ := hrel
      have hn := HA.out.2.1
      have hn1 := HA.out.1
      have hm1 : ((n : Int) - 1).toNat = n - 1 := by omega
      have hm2 : a + (n - 1) = a + n - 1 := by omega
      cases h1 : Lx.isL (Lx.B s (a + n))
      · cases h2 : Lx.isD (Lx.B s (a + n))
        · cases h3 : (Lx.B s (a + n) != 46)
          · have h3' := bne_eq_false_iff_eq.mp h3
            have A0 := Aside0.mk h3'; clear h3'
            have hc : contN (Lx.B s (a + n)) (Lx.B s (a + n - 1)) = true := by unfold contN; simp [A0.out, show Lx.isL 45 = false from rfl, show Lx.isD 45 = false from rfl, show Lx.isL 43 = false from rfl, show Lx.isD 43 = false from rfl]
            have hlt : a + n < s.size := by
              rcases Nat.lt_or_ge (a + n) s.size with h | h
              · exact h
              · exfalso; rw [Lx.B_ge h] at hc; revert hc; unfold contN; simp [show Lx.isL 0 = false from rfl, show Lx.isD 0 = false from rfl]
            have hx' := runN_eq s (a + n)
            rw [hc, if_pos rfl] at hx'
            have hx1 := Aside0.mk hx'
            clear hx' hc
            go_wp2_with (first | (go_at_call 157; (with_reducible refine (next_calls b s a (0) km sg cl _ ?_ hs (by omega) (by omega) (by omega)).mono ?_); exact hb; rintro e w' ⟨rfl, ⟨nd, rfl⟩⟩) | (go_at_call 157; (with_reducible refine (next_calls b s a (1) km sg cl _ ?_ hs (by omega) (by omega) (by omega)).mono ?_); exact hb; rintro e w' ⟨rfl, ⟨nd, rfl⟩⟩) | (go_at_call 157; (with_reducible refine (next_calls b s a ((n : Int)) km sg cl _ ?_ hs (by omega) (by omega) (by omega)).mono ?_); exact hb; rintro e w' ⟨rfl, ⟨nd, rfl⟩⟩) | (go_at_call 157; (with_reducible refine (next_calls b s a ((n : Int) - 1) km sg cl _ ?_ hs (by omega) (by omega) (by omega)).mono ?_); exact hb; rintro e w' ⟨rfl, ⟨nd, rfl⟩⟩) | (go_at_call 163; (with_reducible refine (isLetter_calls _ _).mono ?_); rintro e w' ⟨rfl, rfl⟩) | (go_at_call 164; (with_reducible refine (isDigit_calls _ _).mono ?_); rintro e w' ⟨rfl, rfl⟩))
            go_roundg (s.size - (a + (n + 1)))
            case measure => have := HA.out; omega
            case rel => exact ⟨n + 1, by go_num, ⟨by omega, by omega, by rw [← HA.out.2.2.1, hx1.out]; rfl, rfl⟩, (by repeat (first | exact Drawn0.refl _ | assumption | apply Drawn0.step))⟩
          · have h3' := bne_iff_ne.mp h3
            have A0 := Aside0.mk h3'; clear h3'
            cases h4 : (Lx.B s (a + n) == 43)
            · have h4' := beq_eq_false_iff_ne.mp h4
              have A1 := Aside0.mk h4'; clear h4'
              cases h5 : (Lx.B s (a + n) == 45)
              · have h5' := beq_eq_false_iff_ne.mp h5
                have A2 := Aside0.mk h5'; clear h5'
                have hc : contN (Lx.B s (a + n)) (Lx.B s (a + n - 1)) = false := by unfold contN; simp [h1, h2, A0.out, A1.out, A2.out, show Lx.isL 45 = false from rfl, show Lx.isD 45 = false from rfl, show Lx.isL 43 = false from rfl, show Lx.isD 43 = false from rfl]
                have hx' := runN_eq s (a + n)
                rw [hc, if_neg Bool.false_ne_true] at hx'
                have hx1 := Aside0.mk hx'
                clear hx' hc
                go_wp2_with (first | (go_at_call 157; (with_reducible refine (next_calls b s a (0) km sg cl _ ?_ hs (by omega) (by omega) (by omega)).mono ?_); exact hb; rintro e w' ⟨rfl, ⟨nd, rfl⟩⟩) | (go_at_call 157; (with_reducible refine (next_calls b s a (1) km sg cl _ ?_ hs (by omega) (by omega) (by omega)).mono ?_); exact hb; rintro e w' ⟨rfl, ⟨nd, rfl⟩⟩) | (go_at_call 157; (with_reducible refine (next_calls b s a ((n : Int)) km sg cl _ ?_ hs (by omega) (by omega) (by omega)).mono ?_); exact hb; rintro e w' ⟨rfl, ⟨nd, rfl⟩⟩) | (go_at_call 157; (with_reducible refine (next_calls b s a ((n : Int) - 1) km sg cl _ ?_ hs (by omega) (by omega) (by omega)).mono ?_); exact hb; rintro e w' ⟨rfl, ⟨nd, rfl⟩⟩) | (go_at_call 163; (with_reducible refine (isLetter_calls _ _).mono ?_); rintro e w' ⟨rfl, rfl⟩) | (go_at_call 164; (with_reducible refine (isDigit_calls _ _).mono ?_); rintro e w' ⟨rfl, rfl⟩))
                go_ret
                exact ⟨by rw [E.out, ← HA.out.2.2.1, hx1.out]; simp, (by repeat (first | exact Drawn0.refl _ | assumption | apply Drawn0.step))⟩
              · have h5' := beq_iff_eq.mp h5
                have A2 := Aside0.mk h5'; clear h5'
                cases h6 : (Lx.B s (a + n - 1) == 101)
                · cases h7 : (Lx.B s (a + n - 1) == 69)
                  · have h6' := beq_eq_false_iff_ne.mp h6; have h7' := beq_eq_false_iff_ne.mp h7
                    have A := Aside0.mk (And.intro h6' h7'); clear h6' h7'
                    have hc : contN (Lx.B s (a + n)) (Lx.B s (a + n - 1)) = false := by unfold contN; simp [h1, h2, A0.out, A1.out, A2.out, A.out.1, A.out.2, show Lx.isL 45 = false from rfl, show Lx.isD 45 = false from rfl, show Lx.isL 43 = false from rfl, show Lx.isD 43 = false from rfl]
                    have hx' := runN_eq s (a + n)
                    rw [hc, if_neg Bool.false_ne_true] at hx'
                    have hx1 := Aside0.mk hx'
                    clear hx' hc
                    go_wp2_with (first | (go_at_call 157; (with_reducible refine (next_calls b s a (0) km sg cl _ ?_ hs (by omega) (by omega) (by omega)).mono ?_); exact hb; rintro e w' ⟨rfl, ⟨nd, rfl⟩⟩) | (go_at_call 157; (with_reducible refine (next_calls b s a (1) km sg cl _ ?_ hs (by omega) (by omega) (by omega)).mono ?_); exact hb; rintro e w' ⟨rfl, ⟨nd, rfl⟩⟩) | (go_at_call 157; (with_reducible refine (next_calls b s a ((n : Int)) km sg cl _ ?_ hs (by omega) (by omega) (by omega)).mono ?_); exact hb; rintro e w' ⟨rfl, ⟨nd, rfl⟩⟩) | (go_at_call 157; (with_reducible refine (next_calls b s a ((n : Int) - 1) km sg cl _ ?_ hs (by omega) (by omega) (by omega)).mono ?_); exact hb; rintro e w' ⟨rfl, ⟨nd, rfl⟩⟩) | (go_at_call 163; (with_reducible refine (isLetter_calls _ _).mono ?_); rintro e w' ⟨rfl, rfl⟩) | (go_at_call 164; (with_reducible refine (isDigit_calls _ _).mono ?_); rintro e w' ⟨rfl, rfl⟩))
                    go_ret
                    exact ⟨by rw [E.out, ← HA.out.2.2.1, hx1.out]; simp, (by repeat (first | exact Drawn0.refl _ | assumption | apply Drawn0.step))⟩
                  · have h7' := beq_iff_eq.mp h7
                    have A := Aside0.mk h7'; clear h7'
                    have hc : contN (Lx.B s (a + n)) (Lx.B s (a + n - 1)) = true := by unfold contN; simp [h1, h2, A0.out, A1.out, A2.out, A.out, show Lx.isL 45 = false from rfl, show Lx.isD 45 = false from rfl, show Lx.isL 43 = false from rfl, show Lx.isD 43 = false from rfl]
                    have hlt : a + n < s.size := by
                      rcases Nat.lt_or_ge (a + n) s.size with h | h
                      · exact h
                      · exfalso; rw [Lx.B_ge h] at hc; revert hc; unfold contN; simp [show Lx.isL 0 = false from rfl, show Lx.isD 0 = false from rfl]
                    have hx' := runN_eq s (a + n)
                    rw [hc, if_pos rfl] at hx'
                    have hx1 := Aside0.mk hx'
                    clear hx' hc
                    go_wp2_with (first | (go_at_call 157; (with_reducible refine (next_calls b s a (0) km sg cl _ ?_ hs (by omega) (by omega) (by omega)).mono ?_); exact hb; rintro e w' ⟨rfl, ⟨nd, rfl⟩⟩) | (go_at_call 157; (with_reducible refine (next_calls b s a (1) km sg cl _ ?_ hs (by omega) (by omega) (by omega)).mono ?_); exact hb; rintro e w' ⟨rfl, ⟨nd, rfl⟩⟩) | (go_at_call 157; (with_reducible refine (next_calls b s a ((n : Int)) km sg cl _ ?_ hs (by omega) (by omega) (by omega)).mono ?_); exact hb; rintro e w' ⟨rfl, ⟨nd, rfl⟩⟩) | (go_at_call 157; (with_reducible refine (next_calls b s a ((n : Int) - 1) km sg cl _ ?_ hs (by omega) (by omega) (by omega)).mono ?_); exact hb; rintro e w' ⟨rfl, ⟨nd, rfl⟩⟩) | (go_at_call 163; (with_reducible refine (isLetter_calls _ _).mono ?_); rintro e w' ⟨rfl, rfl⟩) | (go_at_call 164; (with_reducible refine (isDigit_calls _ _).mono ?_); rintro e w' ⟨rfl, rfl⟩))
                    go_roundg (s.size - (a + (n + 1)))
                    case measure => have := HA.out; omega
                    case rel => exact ⟨n + 1, by go_num, ⟨by omega, by omega, by rw [← HA.out.2.2.1, hx1.out]; rfl, rfl⟩, (by repeat (first | exact Drawn0.refl _ | assumption | apply Drawn0.step))⟩
                · have h6' := beq_iff_eq.mp h6
                  have A := Aside0.mk h6'; clear h6'
                  have hc : contN (Lx.B s (a + n)) (Lx.B s (a + n - 1)) = true := by unfold contN; simp [h1, h2, A0.out, A1.out, A2.out, A.out, show Lx.isL 45 = false from rfl, show Lx.isD 45 = false from rfl, show Lx.isL 43 = false from rfl, show Lx.isD 43 = false from rfl]
                  have hlt : a + n < s.size := by
                    rcases Nat.lt_or_ge (a + n) s.size with h | h
                    · exact h
                    · exfalso; rw [Lx.B_ge h] at hc; revert hc; unfold contN; simp [show Lx.isL 0 = false from rfl, show Lx.isD 0 = false from rfl]
                  have hx' := runN_eq s (a + n)
                  rw [hc, if_pos rfl] at hx'
                  have hx1 := Aside0.mk hx'
                  clear hx' hc
                  go_wp2_with (first | (go_at_call 157; (with_reducible refine (next_calls b s a (0) km sg cl _ ?_ hs (by omega) (by omega) (by omega)).mono ?_); exact hb; rintro e w' ⟨rfl, ⟨nd, rfl⟩⟩) | (go_at_call 157; (with_reducible refine (next_calls b s a (1) km sg cl _ ?_ hs (by omega) (by omega) (by omega)).mono ?_); exact hb; rintro e w' ⟨rfl, ⟨nd, rfl⟩⟩) | (go_at_call 157; (with_reducible refine (next_calls b s a ((n : Int)) km sg cl _ ?_ hs (by omega) (by omega) (by omega)).mono ?_); exact hb; rintro e w' ⟨rfl, ⟨nd, rfl⟩⟩) | (go_at_call 157; (with_reducible refine (next_calls b s a ((n : Int) - 1) km sg cl _ ?_ hs (by omega) (by omega) (by omega)).mono ?_); exact hb; rintro e w' ⟨rfl, ⟨nd, rfl⟩⟩) | (go_at_call 163; (with_reducible refine (isLetter_calls _ _).mono ?_); rintro e w' ⟨rfl, rfl⟩) | (go_at_call 164; (with_reducible refine (isDigit_calls _ _).mono ?_); rintro e w' ⟨rfl, rfl⟩))
                  go_roundg (s.size - (a + (n + 1)))
                  case measure => have := HA.out; omega
                  case rel => exact ⟨n + 1, by go_num, ⟨by omega, by omega, by rw [← HA.out.2.2.1, hx1.out]; rfl, rfl⟩, (by repeat (first | exact Drawn0.refl _ | assumption | apply Drawn0.step))⟩
            · have h4' := beq_iff_eq.mp h4
              have A1 := Aside0.mk h4'; clear h4'
              cases h6 : (Lx.B s (a + n - 1) == 101)
              · cases h7 : (Lx.B s (a + n - 1) == 69)
                · have h6' := beq_eq_false_iff_ne.mp h6; have h7' := beq_eq_false_iff_ne.mp h7
                  have A := Aside0.mk (And.intro h6' h7'); clear h6' h7'
                  have hc : contN (Lx.B s (a + n)) (Lx.B s (a + n - 1)) = false := by unfold contN; simp [h1, h2, A0.out, A1.out, A.out.1, A.out.2, show Lx.isL 45 = false from rfl, show Lx.isD 45 = false from rfl, show Lx.isL 43 = false from rfl, show Lx.isD 43 = false from rfl]
                  have hx' := runN_eq s (a + n)
                  rw [hc, if_neg Bool.false_ne_true] at hx'
                  have hx1 := Aside0.mk hx'
                  clear hx' hc
                  go_wp2_with (first | (go_at_call 157; (with_reducible refine (next_calls b s a (0) km sg cl _ ?_ hs (by omega) (by omega) (by omega)).mono ?_); exact hb; rintro e w' ⟨rfl, ⟨nd, rfl⟩⟩) | (go_at_call 157; (with_reducible refine (next_calls b s a (1) km sg cl _ ?_ hs (by omega) (by omega) (by omega)).mono ?_); exact hb; rintro e w' ⟨rfl, ⟨nd, rfl⟩⟩) | (go_at_call 157; (with_reducible refine (next_calls b s a ((n : Int)) km sg cl _ ?_ hs (by omega) (by omega) (by omega)).mono ?_); exact hb; rintro e w' ⟨rfl, ⟨nd, rfl⟩⟩) | (go_at_call 157; (with_reducible refine (next_calls b s a ((n : Int) - 1) km sg cl _ ?_ hs (by omega) (by omega) (by omega)).mono ?_); exact hb; rintro e w' ⟨rfl, ⟨nd, rfl⟩⟩) | (go_at_call 163; (with_reducible refine (isLetter_calls _ _).mono ?_); rintro e w' ⟨rfl, rfl⟩) | (go_at_call 164; (with_reducible refine (isDigit_calls _ _).mono ?_); rintro e w' ⟨rfl, rfl⟩))
                  go_ret
                  exact ⟨by rw [E.out, ← HA.out.2.2.1, hx1.out]; simp, (by repeat (first | exact Drawn0.refl _ | assumption | apply Drawn0.step))⟩
                · have h7' := beq_iff_eq.mp h7
                  have A := Aside0.mk h7'; clear h7'
                  have hc : contN (Lx.B s (a + n)) (Lx.B s (a + n - 1)) = true := by unfold contN; simp [h1, h2, A0.out, A1.out, A.out, show Lx.isL 45 = false from rfl, show Lx.isD 45 = false from rfl, show Lx.isL 43 = false from rfl, show Lx.isD 43 = false from rfl]
                  have hlt : a + n < s.size := by
                    rcases Nat.lt_or_ge (a + n) s.size with h | h
                    · exact h
                    · exfalso; rw [Lx.B_ge h] at hc; revert hc; unfold contN; simp [show Lx.isL 0 = false from rfl, show Lx.isD 0 = false from rfl]
                  have hx' := runN_eq s (a + n)
                  rw [hc, if_pos rfl] at hx'
                  have hx1 := Aside0.mk hx'
                  clear hx' hc
                  go_wp2_with (first | (go_at_call 157; (with_reducible refine (next_calls b s a (0) km sg cl _ ?_ hs (by omega) (by omega) (by omega)).mono ?_); exact hb; rintro e w' ⟨rfl, ⟨nd, rfl⟩⟩) | (go_at_call 157; (with_reducible refine (next_calls b s a (1) km sg cl _ ?_ hs (by omega) (by omega) (by omega)).mono ?_); exact hb; rintro e w' ⟨rfl, ⟨nd, rfl⟩⟩) | (go_at_call 157; (with_reducible refine (next_calls b s a ((n : Int)) km sg cl _ ?_ hs (by omega) (by omega) (by omega)).mono ?_); exact hb; rintro e w' ⟨rfl, ⟨nd, rfl⟩⟩) | (go_at_call 157; (with_reducible refine (next_calls b s a ((n : Int) - 1) km sg cl _ ?_ hs (by omega) (by omega) (by omega)).mono ?_); exact hb; rintro e w' ⟨rfl, ⟨nd, rfl⟩⟩) | (go_at_call 163; (with_reducible refine (isLetter_calls _ _).mono ?_); rintro e w' ⟨rfl, rfl⟩) | (go_at_call 164; (with_reducible refine (isDigit_calls _ _).mono ?_); rintro e w' ⟨rfl, rfl⟩))
                  go_roundg (s.size - (a + (n + 1)))
                  case measure => have := HA.out; omega
                  case rel => exact ⟨n + 1, by go_num, ⟨by omega, by omega, by rw [← HA.out.2.2.1, hx1.out]; rfl, rfl⟩, (by repeat (first | exact Drawn0.refl _ | assumption | apply Drawn0.step))⟩
              · have h6' := beq_iff_eq.mp h6
                have A := Aside0.mk h6'; clear h6'
                have hc : contN (Lx.B s (a + n)) (Lx.B s (a + n - 1)) = true := by unfold contN; simp [h1, h2, A0.out, A1.out, A.out, show Lx.isL 45 = false from rfl, show Lx.isD 45 = false from rfl, show Lx.isL 43 = false from rfl, show Lx.isD 43 = false from rfl]
                have hlt : a + n < s.size := by
                  rcases Nat.lt_or_ge (a + n) s.size with h | h
                  · exact h
                  · exfalso; rw [Lx.B_ge h] at hc; revert hc; unfold contN; simp [show Lx.isL 0 = false from rfl, show Lx.isD 0 = false from rfl]
                have hx' := runN_eq s (a + n)
                rw [hc, if_pos rfl] at hx'
                have hx1 := Aside0.mk hx'
                clear hx' hc
                go_wp2_with (first | (go_at_call 157; (with_reducible refine (next_calls b s a (0) km sg cl _ ?_ hs (by omega) (by omega) (by omega)).mono ?_); exact hb; rintro e w' ⟨rfl, ⟨nd, rfl⟩⟩) | (go_at_call 157; (with_reducible refine (next_calls b s a (1) km sg cl _ ?_ hs (by omega) (by omega) (by omega)).mono ?_); exact hb; rintro e w' ⟨rfl, ⟨nd, rfl⟩⟩) | (go_at_call 157; (with_reducible refine (next_calls b s a ((n : Int)) km sg cl _ ?_ hs (by omega) (by omega) (by omega)).mono ?_); exact hb; rintro e w' ⟨rfl, ⟨nd, rfl⟩⟩) | (go_at_call 157; (with_reducible refine (next_calls b s a ((n : Int) - 1) km sg cl _ ?_ hs (by omega) (by omega) (by omega)).mono ?_); exact hb; rintro e w' ⟨rfl, ⟨nd, rfl⟩⟩) | (go_at_call 163; (with_reducible refine (isLetter_calls _ _).mono ?_); rintro e w' ⟨rfl, rfl⟩) | (go_at_call 164; (with_reducible refine (isDigit_calls _ _).mono ?_); rintro e w' ⟨rfl, rfl⟩))
                go_roundg (s.size - (a + (n + 1)))
                case measure => have := HA.out; omega
                case rel => exact ⟨n + 1, by go_num, ⟨by omega, by omega, by rw [← HA.out.2.2.1, hx1.out]; rfl, rfl⟩, (by repeat (first | exact Drawn0.refl _ | assumption | apply Drawn0.step))⟩
        · have hc : contN (Lx.B s (a + n)) (Lx.B s (a + n - 1)) = true := by unfold contN; simp [h2, show Lx.isL 45 = false from rfl, show Lx.isD 45 = false from rfl, show Lx.isL 43 = false from rfl, show Lx.isD 43 = false from rfl]
          have hlt : a + n < s.size := by
            rcases Nat.lt_or_ge (a + n) s.size with h | h
            · exact h
            · exfalso; rw [Lx.B_ge h] at hc; revert hc; unfold contN; simp [show Lx.isL 0 = false from rfl, show Lx.isD 0 = false from rfl]
          have hx' := runN_eq s (a + n)
          rw [hc, if_pos rfl] at hx'
          have hx1 := Aside0.mk hx'
          clear hx' hc
          go_wp2_with (first | (go_at_call 157; (with_reducible refine (next_calls b s a (0) km sg cl _ ?_ hs (by omega) (by omega) (by omega)).mono ?_); exact hb; rintro e w' ⟨rfl, ⟨nd, rfl⟩⟩) | (go_at_call 157; (with_reducible refine (next_calls b s a (1) km sg cl _ ?_ hs (by omega) (by omega) (by omega)).mono ?_); exact hb; rintro e w' ⟨rfl, ⟨nd, rfl⟩⟩) | (go_at_call 157; (with_reducible refine (next_calls b s a ((n : Int)) km sg cl _ ?_ hs (by omega) (by omega) (by omega)).mono ?_); exact hb; rintro e w' ⟨rfl, ⟨nd, rfl⟩⟩) | (go_at_call 157; (with_reducible refine (next_calls b s a ((n : Int) - 1) km sg cl _ ?_ hs (by omega) (by omega) (by omega)).mono ?_); exact hb; rintro e w' ⟨rfl, ⟨nd, rfl⟩⟩) | (go_at_call 163; (with_reducible refine (isLetter_calls _ _).mono ?_); rintro e w' ⟨rfl, rfl⟩) | (go_at_call 164; (with_reducible refine (isDigit_calls _ _).mono ?_); rintro e w' ⟨rfl, rfl⟩))
          go_roundg (s.size - (a + (n + 1)))
          case measure => have := HA.out; omega
          case rel => exact ⟨n + 1, by go_num, ⟨by omega, by omega, by rw [← HA.out.2.2.1, hx1.out]; rfl, rfl⟩, (by repeat (first | exact Drawn0.refl _ | assumption | apply Drawn0.step))⟩
      · have hc : contN (Lx.B s (a + n)) (Lx.B s (a + n - 1)) = true := by unfold contN; simp [h1, show Lx.isL 45 = false from rfl, show Lx.isD 45 = false from rfl, show Lx.isL 43 = false from rfl, show Lx.isD 43 = false from rfl]
        have hlt : a + n < s.size := by
          rcases Nat.lt_or_ge (a + n) s.size with h | h
          · exact h
          · exfalso; rw [Lx.B_ge h] at hc; revert hc; unfold contN; simp [show Lx.isL 0 = false from rfl, show Lx.isD 0 = false from rfl]
        have hx' := runN_eq s (a + n)
        rw [hc, if_pos rfl] at hx'
        have hx1 := Aside0.mk hx'
        clear hx' hc
        go_wp2_with (first | (go_at_call 157; (with_reducible refine (next_calls b s a (0) km sg cl _ ?_ hs (by omega) (by omega) (by omega)).mono ?_); exact hb; rintro e w' ⟨rfl, ⟨nd, rfl⟩⟩) | (go_at_call 157; (with_reducible refine (next_calls b s a (1) km sg cl _ ?_ hs (by omega) (by omega) (by omega)).mono ?_); exact hb; rintro e w' ⟨rfl, ⟨nd, rfl⟩⟩) | (go_at_call 157; (with_reducible refine (next_calls b s a ((n : Int)) km sg cl _ ?_ hs (by omega) (by omega) (by omega)).mono ?_); exact hb; rintro e w' ⟨rfl, ⟨nd, rfl⟩⟩) | (go_at_call 157; (with_reducible refine (next_calls b s a ((n : Int) - 1) km sg cl _ ?_ hs (by omega) (by omega) (by omega)).mono ?_); exact hb; rintro e w' ⟨rfl, ⟨nd, rfl⟩⟩) | (go_at_call 163; (with_reducible refine (isLetter_calls _ _).mono ?_); rintro e w' ⟨rfl, rfl⟩) | (go_at_call 164; (with_reducible refine (isDigit_calls _ _).mono ?_); rintro e w' ⟨rfl, rfl⟩))
        go_roundg (s.size - (a + (n + 1)))
        case measure => have := HA.out; omega
        case rel => exact ⟨n + 1, by go_num, ⟨by omega, by omega, by rw [← HA.out.2.2.1, hx1.out]; rfl, rfl⟩, (by repeat (first | exact Drawn0.refl _ | assumption | apply Drawn0.step))⟩
theorem number_no (b : Nat) (s : ByteArray) (a : Nat) (km sg : Value) (cl : Bool) (w : World) (hb : Sc w b s a km sg cl) (hs : s.size ≤ 1000000) (ha : a ≤ s.size)
    (h01 : (Lx.isD (Lx.B s a) || (decide (Lx.B s a = 46) && Lx.isD (Lx.B s (a + 1)))) = false) :
    Calls Tryz.prog 133 #[.pointer (some ⟨b, 0, none⟩)] w fun e w' => e = .returned (.int .i64 ((Lx.numEnd s a - a : Nat) : Int)) ∧ Drawn0 w w' := by
  have E : Aside0 (Lx.numEnd s a = a) := ⟨by unfold Lx.numEnd; rw [if_neg (by rw [h01]; decide)]⟩
  rw [Bool.or_eq_false_iff] at h01
  obtain ⟨h, h01⟩ := h01
  cases h2 : (Lx.B s a != 46)
  · have h3 : Lx.isD (Lx.B s (a + 1)) = false := by
      rw [bne_eq_false_iff_eq.mp h2] at h01; simpa using h01
    clear h01
    go_enter Tryz.func133, Tryz.ntmps133
    go_wp2_with (first | (go_at_call 157; (with_reducible refine (next_calls b s a (0) km sg cl _ ?_ hs (by omega) (by omega) (by omega)).mono ?_); exact hb; rintro e w' ⟨rfl, ⟨nd, rfl⟩⟩) | (go_at_call 157; (with_reducible refine (next_calls b s a (1) km sg cl _ ?_ hs (by omega) (by omega) (by omega)).mono ?_); exact hb; rintro e w' ⟨rfl, ⟨nd, rfl⟩⟩) | (go_at_call 163; (with_reducible refine (isLetter_calls _ _).mono ?_); rintro e w' ⟨rfl, rfl⟩) | (go_at_call 164; (with_reducible refine (isDigit_calls _ _).mono ?_); rintro e w' ⟨rfl, rfl⟩))
    go_ret
    exact ⟨by rw [E.out]; simp, (by repeat (first | exact Drawn0.refl _ | assumption | apply Drawn0.step))⟩
  · clear h01
    go_enter Tryz.func133, Tryz.ntmps133
    go_wp2_with (first | (go_at_call 157; (with_reducible refine (next_calls b s a (0) km sg cl _ ?_ hs (by omega) (by omega) (by omega)).mono ?_); exact hb; rintro e w' ⟨rfl, ⟨nd, rfl⟩⟩) | (go_at_call 157; (with_reducible refine (next_calls b s a (1) km sg cl _ ?_ hs (by omega) (by omega) (by omega)).mono ?_); exact hb; rintro e w' ⟨rfl, ⟨nd, rfl⟩⟩) | (go_at_call 163; (with_reducible refine (isLetter_calls _ _).mono ?_); rintro e w' ⟨rfl, rfl⟩) | (go_at_call 164; (with_reducible refine (isDigit_calls _ _).mono ?_); rintro e w' ⟨rfl, rfl⟩))
    go_ret
    exact ⟨by rw [E.out]; simp, (by repeat (first | exact Drawn0.refl _ | assumption | apply Drawn0.step))⟩
theorem number_calls (b : Nat) (s : ByteArray) (a : Nat) (km sg : Value) (cl : Bool) (w : World) (hb : Sc w b s a km sg cl) (hs : s.size ≤ 1000000) (ha : a ≤ s.size) :
    Calls Tryz.prog 133 #[.pointer (some ⟨b, 0, none⟩)] w fun e w' => e = .returned (.int .i64 ((Lx.numEnd s a - a : Nat) : Int)) ∧ Drawn0 w w' := by
  cases h01 : (Lx.isD (Lx.B s a) || (decide (Lx.B s a = 46) && Lx.isD (Lx.B s (a + 1))))
  · exact number_no b s a km sg cl w hb hs ha h01
  · exact number_yes b s a km sg cl w hb hs ha h01

/-- One round of a quoted text. -/
theorem runQ_eq (s : ByteArray) (m : Int) (a i : Nat) (h : i < s.size) : Lx.runQ s m a i =
    if Lx.B s i = m then i + 1 else if Lx.B s i = 10 then a else if Lx.B s i = 92 then (if Lx.B s (i + 1) = 10 then a else Lx.runQ s m a (i + 2)) else Lx.runQ s m a (i + 1) := by
  conv => lhs; unfold Lx.runQ
  rw [dif_pos h]
theorem runQ_out (s : ByteArray) (m : Int) (a i : Nat) (h : s.size ≤ i) : Lx.runQ s m a i = a := by
  unfold Lx.runQ
  rw [dif_neg (by omega)]
theorem quoted_calls (b : Nat) (s : ByteArray) (a : Nat) (mk : Int) (km sg : Value) (cl : Bool) (w : World) (hb : Sc w b s a km sg cl) (hs : s.size ≤ 1000000) (ha : a < s.size) (hm : mk = 39 ∨ mk = 34) :
    Calls Tryz.prog 165 #[.pointer (some ⟨b, 0, none⟩), .int .u8 mk] w fun e w' => e = .returned (.int .i64 ((Lx.quoteEnd s mk a - a : Nat) : Int)) ∧ Drawn0 w w' := by
  cases h1 : (Lx.B s a != mk)
  · have E : Aside0 (Lx.quoteEnd s mk a = Lx.runQ s mk a (a + 1)) := ⟨by unfold Lx.quoteEnd; rw [if_pos (bne_eq_false_iff_eq.mp h1)]⟩
    have hm' := Aside0.mk hm
    clear hm
    go_enter Tryz.func165, Tryz.ntmps165
    go_wp2_with (first | (go_at_call 157; (with_reducible refine (next_calls b s a (0) km sg cl _ ?_ hs (by omega) (by omega) (by omega)).mono ?_); exact hb; rintro e w' ⟨rfl, ⟨nd, rfl⟩⟩) | (go_at_call 157; (with_reducible refine (next_calls b s a ((n : Int)) km sg cl _ ?_ hs (by omega) (by omega) (by omega)).mono ?_); exact hb; rintro e w' ⟨rfl, ⟨nd, rfl⟩⟩) | (go_at_call 157; (with_reducible refine (next_calls b s a ((n : Int) + 1) km sg cl _ ?_ hs (by omega) (by omega) (by omega)).mono ?_); exact hb; rintro e w' ⟨rfl, ⟨nd, rfl⟩⟩))
    go_loopg [5] (s.size + 1 - (a + 1)) (fun kq v5 w' => ∃ n : Nat, v5 = .int .i64 n ∧ Aside0 (1 ≤ n ∧ a + n ≤ s.size + 1 ∧ Lx.runQ s mk a (a + n) = Lx.runQ s mk a (a + 1) ∧ kq = s.size + 1 - (a + n)) ∧ Drawn0 w w')
    case atStart => exact ⟨1, rfl, ⟨by omega, by omega, rfl, by omega⟩, (by repeat (first | exact Drawn0.refl _ | assumption | apply Drawn0.step))⟩
    case round =>
      clear h1
      obtain ⟨n, rfl, HA, ⟨m, rfl⟩⟩ := hrel
      have hn := HA.out.2.1
      have hn1 := HA.out.1
      obtain ⟨c0, c1, -, -, -, -, -⟩ := hb.cells
      have hw : IntKind.i64.wrap ((a : Int) + n) = (a : Int) + n := IntWalk.i64_in _ (by omega)
      cases hlt : decide ((a : Int) + n < s.size)
      · have hlt' : s.size ≤ a + n := by simp at hlt; omega
        have hx := Aside0.mk (runQ_out s mk a (a + n) hlt')
        go_wp2
        go_quiet (fail)
        clear hw c0 c1
        go_wp2_with (first | (go_at_call 157; (with_reducible refine (next_calls b s a (0) km sg cl _ ?_ hs (by omega) (by omega) (by omega)).mono ?_); exact hb; rintro e w' ⟨rfl, ⟨nd, rfl⟩⟩) | (go_at_call 157; (with_reducible refine (next_calls b s a ((n : Int)) km sg cl _ ?_ hs (by omega) (by omega) (by omega)).mono ?_); exact hb; rintro e w' ⟨rfl, ⟨nd, rfl⟩⟩) | (go_at_call 157; (with_reducible refine (next_calls b s a ((n : Int) + 1) km sg cl _ ?_ hs (by omega) (by omega) (by omega)).mono ?_); exact hb; rintro e w' ⟨rfl, ⟨nd, rfl⟩⟩))
        go_ret
        exact ⟨by rw [E.out, ← HA.out.2.2.1, hx.out]; simp, (by repeat (first | exact Drawn0.refl _ | assumption | apply Drawn0.step))⟩
      · have hlt' : a + n < s.size := by simp at hlt; omega
        have hx := runQ_eq s mk a (a + n) hlt'
        cases h2 : (Lx.B s (a + n) == mk)
        · have h2' := beq_eq_false_iff_ne.mp h2
          rw [if_neg h2'] at hx
          clear h2'
          cases h3 : (Lx.B s (a + n) == 10)
          · have h3' := beq_eq_false_iff_ne.mp h3
            rw [if_neg h3'] at hx
            clear h3'
            cases h4 : (Lx.B s (a + n) == 92)
            · have h4' := beq_eq_false_iff_ne.mp h4
              rw [if_neg h4'] at hx
              have hx1 := Aside0.mk hx
              clear h4' hx
              go_wp2
              go_quiet (fail)
              clear hw c0 c1
              go_wp2_with (first | (go_at_call 157; (with_reducible refine (next_calls b s a (0) km sg cl _ ?_ hs (by omega) (by omega) (by omega)).mono ?_); exact hb; rintro e w' ⟨rfl, ⟨nd, rfl⟩⟩) | (go_at_call 157; (with_reducible refine (next_calls b s a ((n : Int)) km sg cl _ ?_ hs (by omega) (by omega) (by omega)).mono ?_); exact hb; rintro e w' ⟨rfl, ⟨nd, rfl⟩⟩) | (go_at_call 157; (with_reducible refine (next_calls b s a ((n : Int) + 1) km sg cl _ ?_ hs (by omega) (by omega) (by omega)).mono ?_); exact hb; rintro e w' ⟨rfl, ⟨nd, rfl⟩⟩))
              go_roundg (s.size + 1 - (a + (n + 1)))
              case measure => have := HA.out; omega
              case rel => exact ⟨n + 1, by go_num, ⟨by omega, by omega, by rw [← HA.out.2.2.1, hx1.out]; rfl, rfl⟩, (by repeat (first | exact Drawn0.refl _ | assumption | apply Drawn0.step))⟩
            · have h4' := beq_iff_eq.mp h4
              rw [if_pos h4'] at hx
              clear h4'
              cases h5 : (Lx.B s (a + (n + 1)) == 10)
              · have h5' : ¬ Lx.B s (a + n + 1) = 10 := beq_eq_false_iff_ne.mp h5
                rw [if_neg h5'] at hx
                have hx1 := Aside0.mk hx
                clear h5' hx
                go_wp2
                go_quiet (fail)
                clear hw c0 c1
                go_wp2_with (first | (go_at_call 157; (with_reducible refine (next_calls b s a (0) km sg cl _ ?_ hs (by omega) (by omega) (by omega)).mono ?_); exact hb; rintro e w' ⟨rfl, ⟨nd, rfl⟩⟩) | (go_at_call 157; (with_reducible refine (next_calls b s a ((n : Int)) km sg cl _ ?_ hs (by omega) (by omega) (by omega)).mono ?_); exact hb; rintro e w' ⟨rfl, ⟨nd, rfl⟩⟩) | (go_at_call 157; (with_reducible refine (next_calls b s a ((n : Int) + 1) km sg cl _ ?_ hs (by omega) (by omega) (by omega)).mono ?_); exact hb; rintro e w' ⟨rfl, ⟨nd, rfl⟩⟩))
                go_roundg (s.size + 1 - (a + (n + 2)))
                case measure => have := HA.out; omega
                case rel => exact ⟨n + 2, by go_num, ⟨by omega, by omega, by rw [← HA.out.2.2.1, hx1.out]; rfl, rfl⟩, (by repeat (first | exact Drawn0.refl _ | assumption | apply Drawn0.step))⟩
              · have h5' : Lx.B s (a + n + 1) = 10 := beq_iff_eq.mp h5
                rw [if_pos h5'] at hx
                have hx1 := Aside0.mk hx
                clear h5' hx
                go_wp2
                go_quiet (fail)
                clear hw c0 c1
                go_wp2_with (first | (go_at_call 157; (with_reducible refine (next_calls b s a (0) km sg cl _ ?_ hs (by omega) (by omega) (by omega)).mono ?_); exact hb; rintro e w' ⟨rfl, ⟨nd, rfl⟩⟩) | (go_at_call 157; (with_reducible refine (next_calls b s a ((n : Int)) km sg cl _ ?_ hs (by omega) (by omega) (by omega)).mono ?_); exact hb; rintro e w' ⟨rfl, ⟨nd, rfl⟩⟩) | (go_at_call 157; (with_reducible refine (next_calls b s a ((n : Int) + 1) km sg cl _ ?_ hs (by omega) (by omega) (by omega)).mono ?_); exact hb; rintro e w' ⟨rfl, ⟨nd, rfl⟩⟩))
                go_ret
                exact ⟨by rw [E.out, ← HA.out.2.2.1, hx1.out]; simp, (by repeat (first | exact Drawn0.refl _ | assumption | apply Drawn0.step))⟩
          · have h3' := beq_iff_eq.mp h3
            rw [if_pos h3'] at hx
            have hx1 := Aside0.mk hx
            clear h3' hx
            go_wp2
            go_quiet (fail)
            clear hw c0 c1
            go_wp2_with (first | (go_at_call 157; (with_reducible refine (next_calls b s a (0) km sg cl _ ?_ hs (by omega) (by omega) (by omega)).mono ?_); exact hb; rintro e w' ⟨rfl, ⟨nd, rfl⟩⟩) | (go_at_call 157; (with_reducible refine (next_calls b s a ((n : Int)) km sg cl _ ?_ hs (by omega) (by omega) (by omega)).mono ?_); exact hb; rintro e w' ⟨rfl, ⟨nd, rfl⟩⟩) | (go_at_call 157; (with_reducible refine (next_calls b s a ((n : Int) + 1) km sg cl _ ?_ hs (by omega) (by omega) (by omega)).mono ?_); exact hb; rintro e w' ⟨rfl, ⟨nd, rfl⟩⟩))
            go_ret
            exact ⟨by rw [E.out, ← HA.out.2.2.1, hx1.out]; simp, (by repeat (first | exact Drawn0.refl _ | assumption | apply Drawn0.step))⟩
        · have h2' := beq_iff_eq.mp h2
          rw [if_pos h2'] at hx
          have hx1 := Aside0.mk hx
          clear h2' hx
          go_wp2
          go_quiet (fail)
          clear hw c0 c1
          go_wp2_with (first | (go_at_call 157; (with_reducible refine (next_calls b s a (0) km sg cl _ ?_ hs (by omega) (by omega) (by omega)).mono ?_); exact hb; rintro e w' ⟨rfl, ⟨nd, rfl⟩⟩) | (go_at_call 157; (with_reducible refine (next_calls b s a ((n : Int)) km sg cl _ ?_ hs (by omega) (by omega) (by omega)).mono ?_); exact hb; rintro e w' ⟨rfl, ⟨nd, rfl⟩⟩) | (go_at_call 157; (with_reducible refine (next_calls b s a ((n : Int) + 1) km sg cl _ ?_ hs (by omega) (by omega) (by omega)).mono ?_); exact hb; rintro e w' ⟨rfl, ⟨nd, rfl⟩⟩))
          go_ret
          exact ⟨by rw [E.out, ← HA.out.2.2.1, hx1.out]; exact congrArg (fun z : Int => Ending.returned (Value.int .i64 z)) (by omega), (by repeat (first | exact Drawn0.refl _ | assumption | apply Drawn0.step))⟩
  · have E : Aside0 (Lx.quoteEnd s mk a = a) := ⟨by unfold Lx.quoteEnd; rw [if_neg (bne_iff_ne.mp h1)]⟩
    clear hm
    go_enter Tryz.func165, Tryz.ntmps165
    go_wp2_with (first | (go_at_call 157; (with_reducible refine (next_calls b s a (0) km sg cl _ ?_ hs (by omega) (by omega) (by omega)).mono ?_); exact hb; rintro e w' ⟨rfl, ⟨nd, rfl⟩⟩) | (go_at_call 157; (with_reducible refine (next_calls b s a ((n : Int)) km sg cl _ ?_ hs (by omega) (by omega) (by omega)).mono ?_); exact hb; rintro e w' ⟨rfl, ⟨nd, rfl⟩⟩) | (go_at_call 157; (with_reducible refine (next_calls b s a ((n : Int) + 1) km sg cl _ ?_ hs (by omega) (by omega) (by omega)).mono ?_); exact hb; rintro e w' ⟨rfl, ⟨nd, rfl⟩⟩))
    go_ret
    exact ⟨by rw [E.out]; simp, (by repeat (first | exact Drawn0.refl _ | assumption | apply Drawn0.step))⟩
theorem char_calls (b : Nat) (s : ByteArray) (a : Nat) (km sg : Value) (cl : Bool) (w : World) (hb : Sc w b s a km sg cl) (hs : s.size ≤ 1000000) (ha : a < s.size) :
    Calls Tryz.prog 134 #[.pointer (some ⟨b, 0, none⟩)] w fun e w' => e = .returned (.int .i64 ((Lx.quoteEnd s 39 a - a : Nat) : Int)) ∧ Drawn0 w w' := by
  have hc := fun w' (h : Drawn0 w w') => quoted_calls b s a 39 km sg cl w' (hb.drawn h) hs ha (.inl rfl)
  clear hb
  go_enter Tryz.func134, Tryz.ntmps134
  go_wp2_with (first | (go_at_call 165; (with_reducible refine (hc _ ?_).mono ?_); exact Drawn0.refl _; rintro e w' ⟨rfl, ⟨nd, rfl⟩⟩))
  go_ret
  exact ⟨rfl, (by repeat (first | exact Drawn0.refl _ | assumption | apply Drawn0.step))⟩
theorem text_calls (b : Nat) (s : ByteArray) (a : Nat) (km sg : Value) (cl : Bool) (w : World) (hb : Sc w b s a km sg cl) (hs : s.size ≤ 1000000) (ha : a < s.size) :
    Calls Tryz.prog 135 #[.pointer (some ⟨b, 0, none⟩)] w fun e w' => e = .returned (.int .i64 ((Lx.quoteEnd s 34 a - a : Nat) : Int)) ∧ Drawn0 w w' := by
  have hc := fun w' (h : Drawn0 w w') => quoted_calls b s a 34 km sg cl w' (hb.drawn h) hs ha (.inr rfl)
  clear hb
  go_enter Tryz.func135, Tryz.ntmps135
  go_wp2_with (first | (go_at_call 165; (with_reducible refine (hc _ ?_).mono ?_); exact Drawn0.refl _; rintro e w' ⟨rfl, ⟨nd, rfl⟩⟩))
  go_ret
  exact ⟨rfl, (by repeat (first | exact Drawn0.refl _ | assumption | apply Drawn0.step))⟩
end Go.Proofs.YtjnafjgonoficaaGreatDoor
namespace Go.Proofs.YtjnafjgonoficaaGreatDoor
open Go.RowKit Go.Proofs.YtjnafjgonoficaaGreatDoorW.PrintWords
set_option linter.unusedVariables false
set_option linter.unusedSimpArgs false
namespace Lx

theorem B_at (s : ByteArray) (i : Nat) (h : i < s.size) : ∃ b : UInt8, B s i = (b.toNat : Int) ∧ s.data.toList[i]? = some b ∧ s.data.toList.drop i = b :: s.data.toList.drop (i + 1) := by
  have hl : i < s.data.toList.length := by rw [data_length]; exact h
  refine ⟨s.data.toList[i], ?_, by simp [hl], List.drop_eq_getElem_cons hl⟩
  unfold B bt
  rw [dif_pos (by simpa using h)]
  rfl
theorem drop_none (s : ByteArray) (i : Nat) (h : s.size ≤ i) : s.data.toList.drop i = [] := List.drop_eq_nil_of_le (by rw [data_length]; exact h)
theorem toNat_beq (b c : UInt8) : (b == c) = decide ((b.toNat : Int) = (c.toNat : Int)) := by
  rw [Bool.eq_iff_iff, beq_iff_eq, decide_eq_true_eq]
  constructor
  · intro h; rw [h]
  · intro h; exact UInt8.toNat_inj.1 (by omega)

theorem prefix_one (s : ByteArray) (a : Nat) (x : UInt8) (hx : x.toNat ≠ 0) : [x].isPrefixOf (s.data.toList.drop a) = decide (B s a = (x.toNat : Int)) := by
  by_cases h : a < s.size
  · obtain ⟨b, hb, -, hd⟩ := B_at s a h
    rw [hd, hb]
    simp only [List.isPrefixOf, Bool.and_true]
    rw [toNat_beq]
    congr 1
    exact propext ⟨fun e => e.symm, fun e => e.symm⟩
  · rw [drop_none s a (by omega), B_ge (by omega)]
    simp only [List.isPrefixOf]
    symm; rw [decide_eq_false_iff_not]; omega
theorem prefix_two (s : ByteArray) (a : Nat) (x y : UInt8) (hx : x.toNat ≠ 0) (hy : y.toNat ≠ 0) :
    [x, y].isPrefixOf (s.data.toList.drop a) = (decide (B s a = (x.toNat : Int)) && decide (B s (a + 1) = (y.toNat : Int))) := by
  by_cases h : a < s.size
  · obtain ⟨b, hb, -, hd⟩ := B_at s a h
    rw [hd, hb, ← prefix_one s (a + 1) y hy]
    simp only [List.isPrefixOf]
    rw [toNat_beq]
    congr 2
    exact propext ⟨fun e => e.symm, fun e => e.symm⟩
  · rw [drop_none s a (by omega), B_ge (by omega)]
    simp only [List.isPrefixOf]
    rw [decide_eq_false (by omega), Bool.false_and]

theorem ix_runS (s : ByteArray) (i : Nat) (h : i ≤ s.size) : Lib.indexByte (s.data.toList.drop i) 10 = if runS s i < s.size then ((runS s i - i : Nat) : Int) else -1 := by
  by_cases hi : i < s.size
  · obtain ⟨b, hb, -, hd⟩ := B_at s i hi
    have ih := ix_runS s (i + 1) (by omega)
    have h2 := runS_b s (i + 1) (by omega)
    rw [hd]
    unfold Lib.indexByte
    conv => rhs; unfold runS
    rw [dif_pos hi, hb, toNat_beq]
    by_cases h10 : (b.toNat : Int) = 10
    · rw [if_pos h10, if_pos hi, if_pos (by rw [h10]; rfl), Nat.sub_self]; rfl
    · rw [if_neg h10, if_neg (by simpa using h10), ih]
      by_cases hr : runS s (i + 1) < s.size
      · rw [if_pos hr, if_pos hr, if_neg (by rw [beq_iff_eq]; omega)]; omega
      · rw [if_neg hr, if_neg hr]; rfl
  · rw [drop_none s i (by omega)]
    unfold runS
    rw [dif_neg hi, if_neg hi]; rfl
  termination_by s.size - i
theorem ix_runC (s : ByteArray) (i : Nat) (h : i ≤ s.size) : (Lib.index (s.data.toList.drop i) [42, 47] = -1 ∧ runC s i = s.size) ∨
    (∃ j : Nat, Lib.index (s.data.toList.drop i) [42, 47] = j ∧ runC s i = i + j + 2 ∧ i + j + 2 ≤ s.size) := by
  by_cases hi : i < s.size
  · obtain ⟨b, hb, -, hd⟩ := B_at s i hi
    have hp := prefix_two s i 42 47 (by decide) (by decide)
    have ih := ix_runC s (i + 1) (by omega)
    rw [hd] at hp
    rw [hd]
    unfold Lib.index
    rw [hp]
    unfold runC
    rw [dif_pos hi]
    by_cases hc : B s i = 42 ∧ B s (i + 1) = 47
    · rw [if_pos hc, if_pos (by rw [hc.1, hc.2]; rfl)]
      have := B_lt_of_ne (s := s) (i := i + 1) (by rw [hc.2]; decide)
      exact .inr ⟨0, rfl, by omega, by omega⟩
    · rw [if_neg hc, if_neg (by rw [Bool.and_eq_true, decide_eq_true_eq, decide_eq_true_eq]; exact hc)]
      rcases ih with ⟨h1, h2⟩ | ⟨j, h1, h2, h3⟩
      · exact .inl ⟨by rw [h1]; rfl, h2⟩
      · refine .inr ⟨j + 1, ?_, by omega, by omega⟩
        rw [h1, if_neg (by rw [beq_iff_eq]; omega)]; omega
  · refine .inl ⟨?_, ?_⟩
    · rw [drop_none s i (by omega)]; rfl
    · unfold runC; rw [dif_neg hi]
  termination_by s.size - i
theorem lf_take (s : ByteArray) (a n : Nat) (h : a + n ≤ s.size) : decide (0 ≤ Lib.indexByte ((s.data.toList.drop a).take n) 10) = hasLf s a (a + n) := by
  induction n generalizing a with
  | zero => unfold hasLf; rw [dif_neg (by omega)]; simp [Lib.indexByte]
  | succ n ih =>
    obtain ⟨b, hb, -, hd⟩ := B_at s a (by omega)
    rw [hd, List.take_succ_cons]
    unfold hasLf
    rw [dif_pos (by omega), show a + (n + 1) = a + 1 + n from by omega, ← ih (a + 1) (by omega), hb]
    have e : Lib.indexByte (b :: List.take n (List.drop (a + 1) s.data.toList)) 10 = if b == 10 then 0 else if Lib.indexByte (List.take n (List.drop (a + 1) s.data.toList)) 10 == -1 then -1 else Lib.indexByte (List.take n (List.drop (a + 1) s.data.toList)) 10 + 1 := rfl
    rw [e, toNat_beq]
    have hg := Lib.indexByte_ge (List.take n (List.drop (a + 1) s.data.toList)) 10
    generalize Lib.indexByte (List.take n (List.drop (a + 1) s.data.toList)) 10 = q at *
    by_cases h10 : (b.toNat : Int) = 10
    · rw [if_pos (by rw [h10]; rfl), decide_eq_true h10]; rfl
    · rw [if_neg (by simpa using h10), decide_eq_false h10, Bool.false_or]
      by_cases h1 : q = -1
      · rw [h1]; rfl
      · rw [if_neg (by rw [beq_iff_eq]; exact h1), decide_eq_true (by omega), decide_eq_true (by omega)]
theorem suffix_one (s : ByteArray) (a n : Nat) (x : UInt8) (h : a + n ≤ s.size) : Lib.hasSuffix ((s.data.toList.drop a).take n) [x] = decide (0 < n ∧ B s (a + n - 1) = (x.toNat : Int)) := by
  cases n with
  | zero =>
    rw [List.take_zero]
    rw [decide_eq_false (by omega)]
    simp [Lib.hasSuffix, List.isSuffixOf]
  | succ n =>
    obtain ⟨b, hb, hg, -⟩ := B_at s (a + n) (by omega)
    have e : (s.data.toList.drop a).take (n + 1) = (s.data.toList.drop a).take n ++ [b] := by
      rw [List.take_add_one, List.getElem?_drop, hg]; rfl
    rw [e, show a + (n + 1) - 1 = a + n from by omega, hb]
    unfold Lib.hasSuffix
    rw [Bool.eq_iff_iff, List.isSuffixOf_iff_suffix, decide_eq_true_eq]
    constructor
    · rintro ⟨t, ht⟩
      have := List.append_inj_right' ht rfl
      simp only [List.cons.injEq, and_true] at this
      exact ⟨by omega, by rw [this]⟩
    · rintro ⟨-, hx⟩
      have : b = x := UInt8.toNat_inj.1 (by omega)
      exact ⟨_, by rw [this]⟩
theorem trim_one (s : ByteArray) (a n : Nat) (x : UInt8) (h : a + n ≤ s.size) : Lib.trimSuffix ((s.data.toList.drop a).take n) [x] =
    (s.data.toList.drop a).take (if 0 < n ∧ B s (a + n - 1) = (x.toNat : Int) then n - 1 else n) := by
  unfold Lib.trimSuffix
  rw [suffix_one s a n x h]
  by_cases hc : 0 < n ∧ B s (a + n - 1) = (x.toNat : Int)
  · rw [if_pos (decide_eq_true hc), if_pos hc, List.take_take]
    congr 1
    rw [List.length_take, List.length_drop, data_length, List.length_singleton]; omega
  · rw [if_neg (by simpa using hc), if_neg hc]
end Lx
end Go.Proofs.YtjnafjgonoficaaGreatDoor
