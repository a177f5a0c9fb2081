/-
  What the reference's lists of keys and signs, its signs and words come to. Conditions: the text is short.
  What the reference's words and tokens come to. Conditions: the text is short.
  What the reference's token comes to: its kind and its end. Conditions: the text is short.
  What the reference's tokens of a whole text come to. Conditions: the text is short.
  Tokens behind the first byte do not depend on the first byte; the words of a directive, plainly. No program in sight. Conditions: none.
  Token slices: how they read, and that equal ones are found equal. Conditions: the tokens lie in memory.
  The words of a directive, plainly. No program in sight. Conditions: none.
  What the words of a directive come to in the program: cond.words. Conditions: the text is short; the library's variables are as their text lays them.
-/
import Derived.Deep.RegionHeld3
import Derived.Deep.AppendLies
import Derived.Maps.AppendAt
import Derived.Test.YtjnafjgonoficaaGreatDoorF02
import Derived.Test.YtjnafjgonoficaaGreatDoorF04
set_option linter.unusedVariables false
set_option linter.unusedSimpArgs false
namespace Go.Proofs.YtjnafjgonoficaaGreatDoor
open Go.RowKit Go.Proofs.YtjnafjgonoficaaGreatDoorW.PrintWords
theorem rsigns_calls (w:World) :
    Calls Tryz.prog 154 #[] w fun e w'=>e=.returned (.slice (some ⟨w.heap.size,0,none⟩) 47 47)∧w.alloc (.cells (strs Lx.signs) 9)=w':=by
  go_enter Tryz.func154,Tryz.ntmps154
  go_wp2_with fail
  go_ret
  exact ⟨rfl,rfl⟩
theorem rkeys_calls (w:World) :
    Calls Tryz.prog 153 #[] w fun e w'=>e=.returned (.slice (some ⟨w.heap.size,0,none⟩) 28 28)∧w.alloc (.cells (strs Lx.keys) 9)=w':=by
  go_enter Tryz.func153,Tryz.ntmps153
  go_wp2_with fail
  go_ret
  exact ⟨rfl,rfl⟩
def StrsAt (w:World) (gb:Nat) (l:List ByteArray):Prop:=∀ i g,l[i]? = some g → w.cell? ⟨gb,i,none⟩=some (.string g)
theorem tl_eq (x y:ByteArray):(x.toList == y.toList)=decide (x=y):=by
  rw [ByteArray.toList_eq,ByteArray.toList_eq,Bool.eq_iff_iff,beq_iff_eq,decide_eq_true_eq]
  exact ⟨fun h=>ByteArray.ext (Array.toList_inj.1 h),fun h=>by rw [h]⟩
theorem has_calls (gb n:Nat) (l:List ByteArray) (t:ByteArray) (w:World) (hl:StrsAt w gb l) (hn:l.length=n) (hn2:n ≤ 1000000) :
    Calls Tryz.prog 38 #[.slice (some ⟨gb,0,none⟩) n n,.string t] w fun e w'=>(∃ r:Int,e=.returned (.int .i64 r)∧(0 ≤ r ↔ t ∈ l))∧w=w':=by
  go_enter Tryz.func38,Tryz.ntmps38
  go_wp2_with fail
  go_loopg [5] n (fun kq v5 w' => ∃ i:Nat,v5=.int .i64 i∧Aside0 (i ≤ n∧t ∉ l.take i∧kq=n - i)∧w'=w)
  case atStart=>exact ⟨0,rfl,⟨by omega,by simp,rfl⟩,rfl⟩
  case round =>
    obtain ⟨i,rfl,HA,rfl⟩:=hrel
    have hi:=HA.out.1
    by_cases hlt:i < n
    · obtain ⟨g,hg⟩:∃ g,l[i]? = some g:=⟨_,List.getElem?_eq_getElem (by omega)⟩
      have hc:=hl i g hg
      have hd:=tl_eq g t
      have HT:Aside0 (l.take (i + 1)=l.take i ++ [g]):=⟨by rw [List.take_add_one,hg];rfl⟩
      have HM:Aside0 (g ∈ l):=⟨List.mem_of_getElem? hg⟩
      have HL:=mkA hl
      clear hl hg
      by_cases he:g=t
      · rw [decide_eq_true he] at hd
        go_wp2_with fail
        go_ret
        exact ⟨⟨_,rfl,⟨fun _=>he ▸ HM.out,fun _=>by omega⟩⟩,rfl⟩
      · rw [decide_eq_false he] at hd
        go_wp2_with fail
        go_roundg (n - (i + 1))
        case measure=>have:=HA.out;omega
        case rel=>exact ⟨i + 1,by go_num,⟨by omega,by rw [HT.out];intro hh;rw [List.mem_append,List.mem_singleton] at hh;rcases hh with hh | hh;exact HA.out.2.1 hh;exact he hh.symm,rfl⟩,rfl⟩
    · obtain rfl:i=n:=by omega
      clear hl
      go_wp2_with fail
      go_ret
      exact ⟨⟨_,rfl,⟨fun h=>by omega,fun h=>absurd h (by have:=HA.out.2.1;rwa [List.take_of_length_le (by omega)] at this)⟩⟩,rfl⟩
theorem signr_calls (s:ByteArray) (a:Nat) (w:World) (hs:s.size ≤ 1000000) (ha:a ≤ s.size) :
    Calls Tryz.prog 128 #[.string s,.int .i64 a] w fun e w'=>(∃ g:ByteArray,e=.returned (.string g)∧g.size=Lx.signLen s a)∧w.grownBy w' none:=by
  go_enter Tryz.func128,Tryz.ntmps128
  go_wp2_with (go_at_call 154;(refine (rsigns_calls _).mono ?_);rintro e w' ⟨rfl,rfl⟩)
  refine wp_gen (fun W=>Sg W w.heap.size∧w.grownBy W none) ⟨?_,?_⟩ ?_
  · exact sg_of (blk_new_at _ _ _ rfl)
  · exact World.grownBy_alloc _ _ none
  obtain ⟨gb,hgb⟩:∃ gb,w.heap.size=gb:=⟨_,rfl⟩
  rw [hgb]
  rintro W ⟨hG,hgr⟩
  have HGR:=mkA hgr
  clear hgr hgb
  go_loopg [5,7] 47 (fun kq v5 v7 w' => ∃ (best:ByteArray) (i:Nat),v5=.string best∧v7=.int .i64 i∧Aside0 (i ≤ 47∧best.size ≤ s.size∧Lx.signOf s a (Lx.signs.drop i) best.size=Lx.signLen s a∧kq=47 - i)∧w'=W)
  case atStart=>exact ⟨_,0,rfl,rfl,⟨by omega,Nat.zero_le _,rfl,rfl⟩,rfl⟩
  case round =>
    obtain ⟨best,i,rfl,rfl,HA,rfl⟩:=hrel
    have hi:=HA.out.1
    by_cases hlt:i < 47
    · have hgg:∃ g,Lx.signs[i]? = some g:=⟨_,List.getElem?_eq_getElem (show i < Lx.signs.length from hlt)⟩
      obtain ⟨g,hgi⟩:=hgg
      have hc:=hG i g hgi
      have hx:=mkA (signOf_cons s a i best.size g hgi)
      obtain ⟨gs,rfl⟩:∃ gs:ByteArray,g=gs.data.toList:=⟨⟨g.toArray⟩,rfl⟩
      have hc1:wr.cell? ⟨gb,i,none⟩=some (.string gs):=hc
      have hkl:gs.size ≤ 8:=by
        have hall:(Lx.signs.all fun g=>decide (g.length ≤ 8))=true:=by decide
        have:=of_decide_eq_true (List.all_eq_true.1 hall _ (List.mem_of_getElem? hgi))
        rwa [data_length] at this
      have hsz:Aside0 (gs.data.toList.length=gs.size):=⟨data_length gs⟩
      clear hc hgi
      cases h1:decide (best.size < gs.size)
      · have hy:Aside0 ((if best.size < gs.data.toList.length∧Lx.begins s a gs.data.toList=true then gs.data.toList.length else best.size)=best.size):=⟨by rw [hsz.out];exact if_neg (fun hh=>of_decide_eq_false h1 hh.1)⟩
        go_wp2_with fail
        go_roundg (47 - (i + 1))
        case measure=>have:=HA.out;omega
        case rel=>exact ⟨best,i + 1,rfl,by go_num,⟨by omega,HA.out.2.1,by rw [← HA.out.2.2.1,hx.out,hy.out],rfl⟩,rfl⟩
      · cases h2:Lx.begins s a gs.data.toList
        · have hy:Aside0 ((if best.size < gs.data.toList.length∧Lx.begins s a gs.data.toList=true then gs.data.toList.length else best.size)=best.size):=⟨if_neg (by rw [h2];simp)⟩
          go_wp2_with (go_at_call 152;(with_reducible refine (beginsr_calls s gs a _ hs ha (by omega)).mono ?_);rintro e w' ⟨rfl,rfl⟩)
          go_roundg (47 - (i + 1))
          case measure=>have:=HA.out;omega
          case rel=>exact ⟨best,i + 1,rfl,by go_num,⟨by omega,HA.out.2.1,by rw [← HA.out.2.2.1,hx.out,hy.out],rfl⟩,rfl⟩
        · have hy:Aside0 ((if best.size < gs.data.toList.length∧Lx.begins s a gs.data.toList=true then gs.data.toList.length else best.size)=gs.size):=⟨by rw [hsz.out];exact if_pos ⟨of_decide_eq_true h1,h2⟩⟩
          have hle:gs.size ≤ s.size:=by
            have:=(List.isPrefixOf_iff_prefix.1 h2).length_le
            rw [List.length_drop,data_length,data_length] at this;omega
          go_wp2_with (go_at_call 152;(with_reducible refine (beginsr_calls s gs a _ hs ha (by omega)).mono ?_);rintro e w' ⟨rfl,rfl⟩)
          go_roundg (47 - (i + 1))
          case measure=>have:=HA.out;omega
          case rel=>exact ⟨gs,i + 1,rfl,by go_num,⟨by omega,hle,by rw [← HA.out.2.2.1,hx.out,hy.out],rfl⟩,rfl⟩
    · obtain rfl:i=47:=by omega
      have hx:Aside0 (best.size=Lx.signLen s a):=⟨HA.out.2.2.1⟩
      go_wp2_with fail
      go_ret
      exact ⟨⟨_,rfl,hx.out⟩,HGR.out⟩
theorem strsAt_of {w:World} {gb:Nat} {l:List (List UInt8)} (h:w.heap[gb]? = some (.cells (strs l) 9 (0,0))):StrsAt w gb (l.map fun k=>⟨k.toArray⟩):=fun i g hi=>by
  rw [blk_cell h]
  unfold strs
  rw [List.getElem?_map] at hi
  rcases hl:l[i]? with _ | k
  · rw [hl] at hi;simp at hi
  · rw [hl] at hi
    simp at hi
    subst hi
    simp [hl]
theorem isKey_mem (t:ByteArray):Lx.isKey t=true ↔ t ∈ Lx.keys.map fun k:List UInt8=>(⟨k.toArray⟩:ByteArray):=by
  unfold Lx.isKey
  rw [List.contains_iff_mem,List.mem_map]
  constructor
  · intro h;exact ⟨_,h,rfl⟩
  · rintro ⟨k,h,rfl⟩;exact h
theorem runW_at (s:ByteArray) (i:Nat) (h:i < s.size):Lx.runW s i=if (Lx.isL (Lx.B s i) || Lx.isD (Lx.B s i))=true then Lx.runW s (i + 1) else i:=by
  conv=>lhs;unfold Lx.runW
  rw [dif_pos h]
theorem keysHas_calls (t:ByteArray) (w:World) (gb:Nat) (hw:w.heap[gb]? = some (.cells (strs Lx.keys) 9 (0,0))) :
    Calls Tryz.prog 38 #[.slice (some ⟨gb,0,none⟩) 28 28,.string t] w fun e w'=>(∃ r:Int,e=.returned (.int .i64 r)∧decide (0 ≤ r)=Lx.isKey t)∧w=w':=by
  refine (has_calls _ 28 _ t _ (strsAt_of hw) rfl (by decide)).mono ?_
  rintro e w' ⟨⟨r,rfl,hr⟩,rfl⟩
  exact ⟨⟨r,rfl,by rw [Bool.eq_iff_iff,decide_eq_true_eq,isKey_mem];exact hr⟩,rfl⟩
theorem grown_drew {w w':World} {row:Option Nat} (h:w.grownBy w' row):w.grownBy w'.drew row:=⟨h.os,h.tape,h.output,h.size,h.block⟩
set_option maxHeartbeats 2000000 in
theorem word_calls (s:ByteArray) (a:Nat) (w:World) (hs:s.size ≤ 1000000) (ha:a ≤ s.size) :
    Calls Tryz.prog 124 #[.string s,.int .i64 a] w fun e w'=>e=.returned (.tuple #[.int .i64 (if Lx.isKey (s.extract a (Lx.runW s a)) then 2 else 1),.int .i64 (Lx.runW s a:Nat)])∧w.grownBy w' none:=by
  obtain ⟨kk,hkk⟩:∃ kk:Int,(if Lx.isKey (s.extract a (Lx.runW s a)) then 2 else 1)=kk:=⟨_,rfl⟩
  rw [hkk]
  have HKK:=mkA hkk
  clear hkk
  go_enter Tryz.func124,Tryz.ntmps124
  go_wp2_with fail
  go_loopg [6] (s.size - a) (fun kq v6 w' => ∃ (n:Nat),v6=.int .i64 n∧Aside0 (n ≤ s.size∧a ≤ n∧Lx.runW s n=Lx.runW s a∧kq=s.size - n)∧w'=w)
  case atStart=>exact ⟨a,rfl,⟨by omega,by omega,rfl,rfl⟩,rfl⟩
  case round =>
    obtain ⟨n,rfl,HA,rfl⟩:=hrel
    have hn:=HA.out.1
    have hn1:=HA.out.2.1
    by_cases hgo:n < s.size∧(Lx.isL (Lx.B s n) || Lx.isD (Lx.B s n))=true
    · obtain ⟨hl,hb⟩:=hgo
      have hld:decide ((n:Int) < s.size)=true:=by simpa using hl
      have hx:=runW_at s n hl
      rw [hb,if_pos rfl] at hx
      have X:=mkA hx
      clear hx
      have hgx:=B_get s n hl
      cases h1:Lx.isL (Lx.B s n)
      · have h2:Lx.isD (Lx.B s n)=true:=by rwa [h1,Bool.false_or] at hb
        clear hb
        go_wp2_with (first | (go_at_call 123;(with_reducible refine (letter_calls _ _).mono ?_);rintro e w' ⟨rfl,rfl⟩) | (go_at_call 125;(with_reducible refine (digit_calls _ _).mono ?_);rintro e w' ⟨rfl,rfl⟩))
        go_roundg (s.size - (n + 1))
        case measure=>have:=HA.out;omega
        case rel=>exact ⟨n + 1,by go_num,⟨by omega,by omega,by rw [← X.out];exact HA.out.2.2.1,rfl⟩,rfl⟩
      · clear hb
        go_wp2_with (first | (go_at_call 123;(with_reducible refine (letter_calls _ _).mono ?_);rintro e w' ⟨rfl,rfl⟩) | (go_at_call 125;(with_reducible refine (digit_calls _ _).mono ?_);rintro e w' ⟨rfl,rfl⟩))
        go_roundg (s.size - (n + 1))
        case measure=>have:=HA.out;omega
        case rel=>exact ⟨n + 1,by go_num,⟨by omega,by omega,by rw [← X.out];exact HA.out.2.2.1,rfl⟩,rfl⟩
    · have X:Aside0 (Lx.runW s n=n):=⟨by
        conv=>lhs;unfold Lx.runW
        split
        · rename_i hl;exact if_neg (fun hh=>hgo ⟨hl,hh⟩)
        · rfl⟩
      have hext:Aside0 (s.extract a (Lx.runW s a)=s.extract a n):=⟨by rw [← HA.out.2.2.1,X.out]⟩
      obtain ⟨k,hk⟩:∃ k,Lx.isKey (s.extract a n)=k:=⟨_,rfl⟩
      by_cases hl:n < s.size
      · have hld:decide ((n:Int) < s.size)=true:=by simpa using hl
        have hb:(Lx.isL (Lx.B s n) || Lx.isD (Lx.B s n))=false:=Bool.eq_false_iff.2 (fun hh=>hgo ⟨hl,hh⟩)
        rw [Bool.or_eq_false_iff] at hb
        obtain ⟨h1,h2⟩:=hb
        have hgx:=B_get s n hl
        clear hgo
        have hkk:=HKK.out
        rw [hext.out,hk] at hkk
        clear HKK
        cases k
        all_goals
          have HKK:=mkA hkk
          clear hkk
          go_wp2_with (first | (go_at_call 123;(with_reducible refine (letter_calls _ _).mono ?_);rintro e w' ⟨rfl,rfl⟩) | (go_at_call 125;(with_reducible refine (digit_calls _ _).mono ?_);rintro e w' ⟨rfl,rfl⟩))
          go_region_with (first | (go_at_call 153;(refine (rkeys_calls _).mono ?_);rintro e w' ⟨rfl,rfl⟩) | (go_at_call 38;(refine (keysHas_calls _ _ _ ?_).mono ?_);exact blk_new_at wr _ _ rfl;rintro e w' ⟨⟨r,rfl,hr⟩,rfl⟩))
          go_wp2_with fail
          go_ret2
          exact ⟨by rw [← HKK.out,← HA.out.2.2.1,X.out];simp,grown_drew (World.grownBy_alloc _ _ none)⟩
      · have hld:decide ((n:Int) < s.size)=false:=by simpa using Nat.le_of_not_lt hl
        clear hgo
        have hkk:=HKK.out
        rw [hext.out,hk] at hkk
        clear HKK
        cases k
        all_goals
          have HKK:=mkA hkk
          clear hkk
          go_wp2_with (first | (go_at_call 123;(with_reducible refine (letter_calls _ _).mono ?_);rintro e w' ⟨rfl,rfl⟩) | (go_at_call 125;(with_reducible refine (digit_calls _ _).mono ?_);rintro e w' ⟨rfl,rfl⟩))
          go_region_with (first | (go_at_call 153;(refine (rkeys_calls _).mono ?_);rintro e w' ⟨rfl,rfl⟩) | (go_at_call 38;(refine (keysHas_calls _ _ _ ?_).mono ?_);exact blk_new_at wr _ _ rfl;rintro e w' ⟨⟨r,rfl,hr⟩,rfl⟩))
          go_wp2_with fail
          go_ret2
          exact ⟨by rw [← HKK.out,← HA.out.2.2.1,X.out];simp,grown_drew (World.grownBy_alloc _ _ none)⟩
theorem word_callsk (s:ByteArray) (a:Nat) (kk:Int) (w:World) (hs:s.size ≤ 1000000) (ha:a ≤ s.size) (hk:(if Lx.isKey (s.extract a (Lx.runW s a)) then 2 else 1)=kk) :
    Calls Tryz.prog 124 #[.string s,.int .i64 a] w fun e w'=>e=.returned (.tuple #[.int .i64 kk,.int .i64 (Lx.runW s a:Nat)])∧w.grownBy w' none:=by
  rw [← hk];exact word_calls s a w hs ha
theorem emptyB (g:ByteArray):g.toList.isEmpty=decide (g.size=0):=by
  rw [ByteArray.toList_eq,← data_length,Bool.eq_iff_iff,List.isEmpty_iff,decide_eq_true_eq,List.length_eq_zero_iff]
set_option maxRecDepth 100000 in
set_option maxHeartbeats 4000000 in
theorem tokenr_calls (s:ByteArray) (a:Nat) (first:Bool) (w:World) (hs:s.size ≤ 1000000) (ha:a < s.size) :
    Calls Tryz.prog 96 #[.string s,.int .i64 a,.bool first] w fun e w'=>e=.returned (.tuple #[.int .i64 (Lx.tokEnd s a first).1,.int .i64 ((Lx.tokEnd s a first).2:Nat)])∧w.grownBy w' none:=by
  obtain ⟨T,hT⟩:∃ T,Lx.tokEnd s a first=T:=⟨_,rfl⟩
  rw [hT]
  have HT:=mkA hT
  clear hT
  have hga:=B_get s a ha
  have P:Lx.tokEnd s a first=if first=true∧Lx.B s a=35 then (7,Lx.runL s a a)
    else if Lx.isL (Lx.B s a)=true then (if Lx.isKey (s.extract a (Lx.runW s a)) then 2 else 1,Lx.runW s a)
    else if Lx.isD (Lx.B s a) || (decide (Lx.B s a=46) && Lx.isD (Lx.B s (a + 1))) then (3,Lx.runN s (a + 1))
    else if Lx.B s a=39 ∨ Lx.B s a=34 then
      (if Lx.quoteEnd s (Lx.B s a) a=a then (8,a + 1) else (if Lx.B s a=34 then 5 else 4,Lx.quoteEnd s (Lx.B s a) a))
    else if Lx.signLen s a=0 then (8,a + 1) else (6,a + Lx.signLen s a):=rfl
  by_cases hB:Lx.B s a=35
  · cases first
    · rw [if_neg (by simp),hB,if_neg (by decide),if_neg (by simp;decide),if_neg (by decide)] at P
      have hl1:Lx.isL 35=false:=rfl
      have hl2:Lx.isD 35=false:=rfl
      have HLE:Aside0 (Lx.signLen s a ≤ s.size - a):=⟨Lx.signOf_b s a Lx.signs 0 (by omega)⟩
      cases hz:decide (Lx.signLen s a=0)
      · rw [if_neg (of_decide_eq_false hz)] at P
        have E:=mkA P
        have HZ:=mkA hz
        clear P hz
        go_enter Tryz.func96,Tryz.ntmps96
        go_wp2_with (first | (go_at_call 123;(with_reducible refine (letter_calls _ _).mono ?_);rintro e w' ⟨rfl,rfl⟩) | (go_at_call 125;(with_reducible refine (digit_calls _ _).mono ?_);rintro e w' ⟨rfl,rfl⟩) | (go_at_call 120;(with_reducible refine (byteAt_calls s ((a:Int) + 1) _ (by omega)).mono ?_);rintro e w' ⟨rfl,rfl⟩) | (go_at_call 126;(with_reducible refine (numberr_calls s a _ hs ha).mono ?_);rintro e w' ⟨rfl,rfl⟩) | (go_at_call 122;(with_reducible refine (liner_calls s a _ hs ha ?_).mono ?_);exact hB;rintro e w' ⟨rfl,rfl⟩) | (go_at_call 124;(with_reducible refine (word_callsk s a kk _ hs ?_ ?_).mono ?_);exact Nat.le_of_lt ha;exact HKK.out;rintro e w' ⟨rfl,hgr⟩;have HGR:=mkA hgr;clear hgr) | (go_at_call 127;(with_reducible refine (quotedr_calls s a _ hs ha ?_).mono ?_);exact HQ.out;rintro e w' ⟨rfl,⟨nd,rfl⟩⟩) | (go_at_call 128;(with_reducible refine (signr_calls s a _ hs ?_).mono ?_);exact Nat.le_of_lt ha;rintro e w' ⟨⟨g,rfl,hgs⟩,hgr⟩;have hge:=emptyB g;rw [hgs,HZ.out] at hge;have hwg:IntKind.i64.wrap ((a:Int) + g.size)=(a:Int) + g.size:=IntWalk.i64_in _ (by have:=HLE.out;omega);have HGS:=mkA hgs;have HGR:=mkA hgr;clear hgs hgr))
        go_ret2
        exact ⟨by rw [← HT.out,E.out];simp [HGS.out],HGR.out⟩
      · rw [if_pos (of_decide_eq_true hz)] at P
        have E:=mkA P
        have HZ:=mkA hz
        clear P hz
        go_enter Tryz.func96,Tryz.ntmps96
        go_wp2_with (first | (go_at_call 123;(with_reducible refine (letter_calls _ _).mono ?_);rintro e w' ⟨rfl,rfl⟩) | (go_at_call 125;(with_reducible refine (digit_calls _ _).mono ?_);rintro e w' ⟨rfl,rfl⟩) | (go_at_call 120;(with_reducible refine (byteAt_calls s ((a:Int) + 1) _ (by omega)).mono ?_);rintro e w' ⟨rfl,rfl⟩) | (go_at_call 126;(with_reducible refine (numberr_calls s a _ hs ha).mono ?_);rintro e w' ⟨rfl,rfl⟩) | (go_at_call 122;(with_reducible refine (liner_calls s a _ hs ha ?_).mono ?_);exact hB;rintro e w' ⟨rfl,rfl⟩) | (go_at_call 124;(with_reducible refine (word_callsk s a kk _ hs ?_ ?_).mono ?_);exact Nat.le_of_lt ha;exact HKK.out;rintro e w' ⟨rfl,hgr⟩;have HGR:=mkA hgr;clear hgr) | (go_at_call 127;(with_reducible refine (quotedr_calls s a _ hs ha ?_).mono ?_);exact HQ.out;rintro e w' ⟨rfl,⟨nd,rfl⟩⟩) | (go_at_call 128;(with_reducible refine (signr_calls s a _ hs ?_).mono ?_);exact Nat.le_of_lt ha;rintro e w' ⟨⟨g,rfl,hgs⟩,hgr⟩;have hge:=emptyB g;rw [hgs,HZ.out] at hge;have hwg:IntKind.i64.wrap ((a:Int) + g.size)=(a:Int) + g.size:=IntWalk.i64_in _ (by have:=HLE.out;omega);have HGS:=mkA hgs;have HGR:=mkA hgr;clear hgs hgr))
        go_ret2
        exact ⟨by rw [← HT.out,E.out];simp,HGR.out⟩
    · rw [if_pos ⟨rfl,hB⟩] at P
      have E:=mkA P
      clear P
      go_enter Tryz.func96,Tryz.ntmps96
      go_wp2_with (first | (go_at_call 123;(with_reducible refine (letter_calls _ _).mono ?_);rintro e w' ⟨rfl,rfl⟩) | (go_at_call 125;(with_reducible refine (digit_calls _ _).mono ?_);rintro e w' ⟨rfl,rfl⟩) | (go_at_call 120;(with_reducible refine (byteAt_calls s ((a:Int) + 1) _ (by omega)).mono ?_);rintro e w' ⟨rfl,rfl⟩) | (go_at_call 126;(with_reducible refine (numberr_calls s a _ hs ha).mono ?_);rintro e w' ⟨rfl,rfl⟩) | (go_at_call 122;(with_reducible refine (liner_calls s a _ hs ha ?_).mono ?_);exact hB;rintro e w' ⟨rfl,rfl⟩) | (go_at_call 124;(with_reducible refine (word_callsk s a kk _ hs ?_ ?_).mono ?_);exact Nat.le_of_lt ha;exact HKK.out;rintro e w' ⟨rfl,hgr⟩;have HGR:=mkA hgr;clear hgr) | (go_at_call 127;(with_reducible refine (quotedr_calls s a _ hs ha ?_).mono ?_);exact HQ.out;rintro e w' ⟨rfl,⟨nd,rfl⟩⟩) | (go_at_call 128;(with_reducible refine (signr_calls s a _ hs ?_).mono ?_);exact Nat.le_of_lt ha;rintro e w' ⟨⟨g,rfl,hgs⟩,hgr⟩;have hge:=emptyB g;rw [hgs,HZ.out] at hge;have hwg:IntKind.i64.wrap ((a:Int) + g.size)=(a:Int) + g.size:=IntWalk.i64_in _ (by have:=HLE.out;omega);have HGS:=mkA hgs;have HGR:=mkA hgr;clear hgs hgr))
      go_ret2
      exact ⟨by rw [← HT.out,E.out];simp,World.grownBy.refl _ _⟩
  · rw [if_neg (fun hh=>hB hh.2)] at P
    have h1:=beq_eq_false_iff_ne.mpr hB
    clear hB
    cases h2:Lx.isL (Lx.B s a)
    · rw [h2,if_neg (by decide)] at P
      cases h3:Lx.isD (Lx.B s a)
      · rw [h3,Bool.false_or] at P
        by_cases hB:Lx.B s a=46
        · clear h1 h2 h3
          have hl1:Lx.isL 46=false:=rfl
          have hl2:Lx.isD 46=false:=rfl
          rw [hB] at P
          cases h5:Lx.isD (Lx.B s (a + 1))
          · rw [h5,if_neg (by decide),if_neg (by decide)] at P
            have HLE:Aside0 (Lx.signLen s a ≤ s.size - a):=⟨Lx.signOf_b s a Lx.signs 0 (by omega)⟩
            cases hz:decide (Lx.signLen s a=0)
            · rw [if_neg (of_decide_eq_false hz)] at P
              have E:=mkA P
              have HZ:=mkA hz
              clear P hz
              go_enter Tryz.func96,Tryz.ntmps96
              go_wp2_with (first | (go_at_call 123;(with_reducible refine (letter_calls _ _).mono ?_);rintro e w' ⟨rfl,rfl⟩) | (go_at_call 125;(with_reducible refine (digit_calls _ _).mono ?_);rintro e w' ⟨rfl,rfl⟩) | (go_at_call 120;(with_reducible refine (byteAt_calls s ((a:Int) + 1) _ (by omega)).mono ?_);rintro e w' ⟨rfl,rfl⟩) | (go_at_call 126;(with_reducible refine (numberr_calls s a _ hs ha).mono ?_);rintro e w' ⟨rfl,rfl⟩) | (go_at_call 122;(with_reducible refine (liner_calls s a _ hs ha ?_).mono ?_);exact hB;rintro e w' ⟨rfl,rfl⟩) | (go_at_call 124;(with_reducible refine (word_callsk s a kk _ hs ?_ ?_).mono ?_);exact Nat.le_of_lt ha;exact HKK.out;rintro e w' ⟨rfl,hgr⟩;have HGR:=mkA hgr;clear hgr) | (go_at_call 127;(with_reducible refine (quotedr_calls s a _ hs ha ?_).mono ?_);exact HQ.out;rintro e w' ⟨rfl,⟨nd,rfl⟩⟩) | (go_at_call 128;(with_reducible refine (signr_calls s a _ hs ?_).mono ?_);exact Nat.le_of_lt ha;rintro e w' ⟨⟨g,rfl,hgs⟩,hgr⟩;have hge:=emptyB g;rw [hgs,HZ.out] at hge;have hwg:IntKind.i64.wrap ((a:Int) + g.size)=(a:Int) + g.size:=IntWalk.i64_in _ (by have:=HLE.out;omega);have HGS:=mkA hgs;have HGR:=mkA hgr;clear hgs hgr))
              go_ret2
              exact ⟨by rw [← HT.out,E.out];simp [HGS.out],HGR.out⟩
            · rw [if_pos (of_decide_eq_true hz)] at P
              have E:=mkA P
              have HZ:=mkA hz
              clear P hz
              go_enter Tryz.func96,Tryz.ntmps96
              go_wp2_with (first | (go_at_call 123;(with_reducible refine (letter_calls _ _).mono ?_);rintro e w' ⟨rfl,rfl⟩) | (go_at_call 125;(with_reducible refine (digit_calls _ _).mono ?_);rintro e w' ⟨rfl,rfl⟩) | (go_at_call 120;(with_reducible refine (byteAt_calls s ((a:Int) + 1) _ (by omega)).mono ?_);rintro e w' ⟨rfl,rfl⟩) | (go_at_call 126;(with_reducible refine (numberr_calls s a _ hs ha).mono ?_);rintro e w' ⟨rfl,rfl⟩) | (go_at_call 122;(with_reducible refine (liner_calls s a _ hs ha ?_).mono ?_);exact hB;rintro e w' ⟨rfl,rfl⟩) | (go_at_call 124;(with_reducible refine (word_callsk s a kk _ hs ?_ ?_).mono ?_);exact Nat.le_of_lt ha;exact HKK.out;rintro e w' ⟨rfl,hgr⟩;have HGR:=mkA hgr;clear hgr) | (go_at_call 127;(with_reducible refine (quotedr_calls s a _ hs ha ?_).mono ?_);exact HQ.out;rintro e w' ⟨rfl,⟨nd,rfl⟩⟩) | (go_at_call 128;(with_reducible refine (signr_calls s a _ hs ?_).mono ?_);exact Nat.le_of_lt ha;rintro e w' ⟨⟨g,rfl,hgs⟩,hgr⟩;have hge:=emptyB g;rw [hgs,HZ.out] at hge;have hwg:IntKind.i64.wrap ((a:Int) + g.size)=(a:Int) + g.size:=IntWalk.i64_in _ (by have:=HLE.out;omega);have HGS:=mkA hgs;have HGR:=mkA hgr;clear hgs hgr))
              go_ret2
              exact ⟨by rw [← HT.out,E.out];simp,HGR.out⟩
          · rw [h5,if_pos (by decide)] at P
            have E:=mkA P
            clear P
            go_enter Tryz.func96,Tryz.ntmps96
            go_wp2_with (first | (go_at_call 123;(with_reducible refine (letter_calls _ _).mono ?_);rintro e w' ⟨rfl,rfl⟩) | (go_at_call 125;(with_reducible refine (digit_calls _ _).mono ?_);rintro e w' ⟨rfl,rfl⟩) | (go_at_call 120;(with_reducible refine (byteAt_calls s ((a:Int) + 1) _ (by omega)).mono ?_);rintro e w' ⟨rfl,rfl⟩) | (go_at_call 126;(with_reducible refine (numberr_calls s a _ hs ha).mono ?_);rintro e w' ⟨rfl,rfl⟩) | (go_at_call 122;(with_reducible refine (liner_calls s a _ hs ha ?_).mono ?_);exact hB;rintro e w' ⟨rfl,rfl⟩) | (go_at_call 124;(with_reducible refine (word_callsk s a kk _ hs ?_ ?_).mono ?_);exact Nat.le_of_lt ha;exact HKK.out;rintro e w' ⟨rfl,hgr⟩;have HGR:=mkA hgr;clear hgr) | (go_at_call 127;(with_reducible refine (quotedr_calls s a _ hs ha ?_).mono ?_);exact HQ.out;rintro e w' ⟨rfl,⟨nd,rfl⟩⟩) | (go_at_call 128;(with_reducible refine (signr_calls s a _ hs ?_).mono ?_);exact Nat.le_of_lt ha;rintro e w' ⟨⟨g,rfl,hgs⟩,hgr⟩;have hge:=emptyB g;rw [hgs,HZ.out] at hge;have hwg:IntKind.i64.wrap ((a:Int) + g.size)=(a:Int) + g.size:=IntWalk.i64_in _ (by have:=HLE.out;omega);have HGS:=mkA hgs;have HGR:=mkA hgr;clear hgs hgr))
            go_ret2
            exact ⟨by rw [← HT.out,E.out];simp,World.grownBy.refl _ _⟩
        · rw [if_neg (by simp [hB])] at P
          have h4:=beq_eq_false_iff_ne.mpr hB
          clear hB
          by_cases hB:Lx.B s a=39
          · have HQ:Aside0 (Lx.B s a=39 ∨ Lx.B s a=34):=⟨.inl hB⟩
            clear h1 h2 h3 h4
            have hl1:Lx.isL 39=false:=rfl
            have hl2:Lx.isD 39=false:=rfl
            rw [if_pos HQ.out,hB] at P
            cases hz:(Lx.quoteEnd s (Lx.B s a) a == a)
            · have hz':=beq_eq_false_iff_ne.mp hz
              rw [hB] at hz hz'
              rw [if_neg hz'] at P
              have E:=mkA P
              clear P hz'
              go_enter Tryz.func96,Tryz.ntmps96
              go_wp2_with (first | (go_at_call 123;(with_reducible refine (letter_calls _ _).mono ?_);rintro e w' ⟨rfl,rfl⟩) | (go_at_call 125;(with_reducible refine (digit_calls _ _).mono ?_);rintro e w' ⟨rfl,rfl⟩) | (go_at_call 120;(with_reducible refine (byteAt_calls s ((a:Int) + 1) _ (by omega)).mono ?_);rintro e w' ⟨rfl,rfl⟩) | (go_at_call 126;(with_reducible refine (numberr_calls s a _ hs ha).mono ?_);rintro e w' ⟨rfl,rfl⟩) | (go_at_call 122;(with_reducible refine (liner_calls s a _ hs ha ?_).mono ?_);exact hB;rintro e w' ⟨rfl,rfl⟩) | (go_at_call 124;(with_reducible refine (word_callsk s a kk _ hs ?_ ?_).mono ?_);exact Nat.le_of_lt ha;exact HKK.out;rintro e w' ⟨rfl,hgr⟩;have HGR:=mkA hgr;clear hgr) | (go_at_call 127;(with_reducible refine (quotedr_calls s a _ hs ha ?_).mono ?_);exact HQ.out;rintro e w' ⟨rfl,⟨nd,rfl⟩⟩) | (go_at_call 128;(with_reducible refine (signr_calls s a _ hs ?_).mono ?_);exact Nat.le_of_lt ha;rintro e w' ⟨⟨g,rfl,hgs⟩,hgr⟩;have hge:=emptyB g;rw [hgs,HZ.out] at hge;have hwg:IntKind.i64.wrap ((a:Int) + g.size)=(a:Int) + g.size:=IntWalk.i64_in _ (by have:=HLE.out;omega);have HGS:=mkA hgs;have HGR:=mkA hgr;clear hgs hgr))
              go_ret2
              exact ⟨by rw [← HT.out,E.out];simp,grown_drewN (World.grownBy.refl _ _) _⟩
            · have hz':=beq_iff_eq.mp hz
              rw [hB] at hz hz'
              rw [if_pos hz'] at P
              have E:=mkA P
              clear P hz'
              go_enter Tryz.func96,Tryz.ntmps96
              go_wp2_with (first | (go_at_call 123;(with_reducible refine (letter_calls _ _).mono ?_);rintro e w' ⟨rfl,rfl⟩) | (go_at_call 125;(with_reducible refine (digit_calls _ _).mono ?_);rintro e w' ⟨rfl,rfl⟩) | (go_at_call 120;(with_reducible refine (byteAt_calls s ((a:Int) + 1) _ (by omega)).mono ?_);rintro e w' ⟨rfl,rfl⟩) | (go_at_call 126;(with_reducible refine (numberr_calls s a _ hs ha).mono ?_);rintro e w' ⟨rfl,rfl⟩) | (go_at_call 122;(with_reducible refine (liner_calls s a _ hs ha ?_).mono ?_);exact hB;rintro e w' ⟨rfl,rfl⟩) | (go_at_call 124;(with_reducible refine (word_callsk s a kk _ hs ?_ ?_).mono ?_);exact Nat.le_of_lt ha;exact HKK.out;rintro e w' ⟨rfl,hgr⟩;have HGR:=mkA hgr;clear hgr) | (go_at_call 127;(with_reducible refine (quotedr_calls s a _ hs ha ?_).mono ?_);exact HQ.out;rintro e w' ⟨rfl,⟨nd,rfl⟩⟩) | (go_at_call 128;(with_reducible refine (signr_calls s a _ hs ?_).mono ?_);exact Nat.le_of_lt ha;rintro e w' ⟨⟨g,rfl,hgs⟩,hgr⟩;have hge:=emptyB g;rw [hgs,HZ.out] at hge;have hwg:IntKind.i64.wrap ((a:Int) + g.size)=(a:Int) + g.size:=IntWalk.i64_in _ (by have:=HLE.out;omega);have HGS:=mkA hgs;have HGR:=mkA hgr;clear hgs hgr))
              go_ret2
              exact ⟨by rw [← HT.out,E.out];simp,grown_drewN (World.grownBy.refl _ _) _⟩
          · by_cases hB2:Lx.B s a=34
            · have HQ:Aside0 (Lx.B s a=39 ∨ Lx.B s a=34):=⟨.inr hB2⟩
              clear h1 h2 h3 h4 hB
              have hB:=hB2
              clear hB2
              have hl1:Lx.isL 34=false:=rfl
              have hl2:Lx.isD 34=false:=rfl
              rw [if_pos HQ.out,hB] at P
              cases hz:(Lx.quoteEnd s (Lx.B s a) a == a)
              · have hz':=beq_eq_false_iff_ne.mp hz
                rw [hB] at hz hz'
                rw [if_neg hz'] at P
                have E:=mkA P
                clear P hz'
                go_enter Tryz.func96,Tryz.ntmps96
                go_wp2_with (first | (go_at_call 123;(with_reducible refine (letter_calls _ _).mono ?_);rintro e w' ⟨rfl,rfl⟩) | (go_at_call 125;(with_reducible refine (digit_calls _ _).mono ?_);rintro e w' ⟨rfl,rfl⟩) | (go_at_call 120;(with_reducible refine (byteAt_calls s ((a:Int) + 1) _ (by omega)).mono ?_);rintro e w' ⟨rfl,rfl⟩) | (go_at_call 126;(with_reducible refine (numberr_calls s a _ hs ha).mono ?_);rintro e w' ⟨rfl,rfl⟩) | (go_at_call 122;(with_reducible refine (liner_calls s a _ hs ha ?_).mono ?_);exact hB;rintro e w' ⟨rfl,rfl⟩) | (go_at_call 124;(with_reducible refine (word_callsk s a kk _ hs ?_ ?_).mono ?_);exact Nat.le_of_lt ha;exact HKK.out;rintro e w' ⟨rfl,hgr⟩;have HGR:=mkA hgr;clear hgr) | (go_at_call 127;(with_reducible refine (quotedr_calls s a _ hs ha ?_).mono ?_);exact HQ.out;rintro e w' ⟨rfl,⟨nd,rfl⟩⟩) | (go_at_call 128;(with_reducible refine (signr_calls s a _ hs ?_).mono ?_);exact Nat.le_of_lt ha;rintro e w' ⟨⟨g,rfl,hgs⟩,hgr⟩;have hge:=emptyB g;rw [hgs,HZ.out] at hge;have hwg:IntKind.i64.wrap ((a:Int) + g.size)=(a:Int) + g.size:=IntWalk.i64_in _ (by have:=HLE.out;omega);have HGS:=mkA hgs;have HGR:=mkA hgr;clear hgs hgr))
                go_ret2
                exact ⟨by rw [← HT.out,E.out];simp,grown_drewN (World.grownBy.refl _ _) _⟩
              · have hz':=beq_iff_eq.mp hz
                rw [hB] at hz hz'
                rw [if_pos hz'] at P
                have E:=mkA P
                clear P hz'
                go_enter Tryz.func96,Tryz.ntmps96
                go_wp2_with (first | (go_at_call 123;(with_reducible refine (letter_calls _ _).mono ?_);rintro e w' ⟨rfl,rfl⟩) | (go_at_call 125;(with_reducible refine (digit_calls _ _).mono ?_);rintro e w' ⟨rfl,rfl⟩) | (go_at_call 120;(with_reducible refine (byteAt_calls s ((a:Int) + 1) _ (by omega)).mono ?_);rintro e w' ⟨rfl,rfl⟩) | (go_at_call 126;(with_reducible refine (numberr_calls s a _ hs ha).mono ?_);rintro e w' ⟨rfl,rfl⟩) | (go_at_call 122;(with_reducible refine (liner_calls s a _ hs ha ?_).mono ?_);exact hB;rintro e w' ⟨rfl,rfl⟩) | (go_at_call 124;(with_reducible refine (word_callsk s a kk _ hs ?_ ?_).mono ?_);exact Nat.le_of_lt ha;exact HKK.out;rintro e w' ⟨rfl,hgr⟩;have HGR:=mkA hgr;clear hgr) | (go_at_call 127;(with_reducible refine (quotedr_calls s a _ hs ha ?_).mono ?_);exact HQ.out;rintro e w' ⟨rfl,⟨nd,rfl⟩⟩) | (go_at_call 128;(with_reducible refine (signr_calls s a _ hs ?_).mono ?_);exact Nat.le_of_lt ha;rintro e w' ⟨⟨g,rfl,hgs⟩,hgr⟩;have hge:=emptyB g;rw [hgs,HZ.out] at hge;have hwg:IntKind.i64.wrap ((a:Int) + g.size)=(a:Int) + g.size:=IntWalk.i64_in _ (by have:=HLE.out;omega);have HGS:=mkA hgs;have HGR:=mkA hgr;clear hgs hgr))
                go_ret2
                exact ⟨by rw [← HT.out,E.out];simp,grown_drewN (World.grownBy.refl _ _) _⟩
            · rw [if_neg (by omega)] at P
              have h5:=beq_eq_false_iff_ne.mpr hB
              have h6:=beq_eq_false_iff_ne.mpr hB2
              clear hB hB2
              have HLE:Aside0 (Lx.signLen s a ≤ s.size - a):=⟨Lx.signOf_b s a Lx.signs 0 (by omega)⟩
              cases hz:decide (Lx.signLen s a=0)
              · rw [if_neg (of_decide_eq_false hz)] at P
                have E:=mkA P
                have HZ:=mkA hz
                clear P hz
                go_enter Tryz.func96,Tryz.ntmps96
                go_wp2_with (first | (go_at_call 123;(with_reducible refine (letter_calls _ _).mono ?_);rintro e w' ⟨rfl,rfl⟩) | (go_at_call 125;(with_reducible refine (digit_calls _ _).mono ?_);rintro e w' ⟨rfl,rfl⟩) | (go_at_call 120;(with_reducible refine (byteAt_calls s ((a:Int) + 1) _ (by omega)).mono ?_);rintro e w' ⟨rfl,rfl⟩) | (go_at_call 126;(with_reducible refine (numberr_calls s a _ hs ha).mono ?_);rintro e w' ⟨rfl,rfl⟩) | (go_at_call 122;(with_reducible refine (liner_calls s a _ hs ha ?_).mono ?_);exact hB;rintro e w' ⟨rfl,rfl⟩) | (go_at_call 124;(with_reducible refine (word_callsk s a kk _ hs ?_ ?_).mono ?_);exact Nat.le_of_lt ha;exact HKK.out;rintro e w' ⟨rfl,hgr⟩;have HGR:=mkA hgr;clear hgr) | (go_at_call 127;(with_reducible refine (quotedr_calls s a _ hs ha ?_).mono ?_);exact HQ.out;rintro e w' ⟨rfl,⟨nd,rfl⟩⟩) | (go_at_call 128;(with_reducible refine (signr_calls s a _ hs ?_).mono ?_);exact Nat.le_of_lt ha;rintro e w' ⟨⟨g,rfl,hgs⟩,hgr⟩;have hge:=emptyB g;rw [hgs,HZ.out] at hge;have hwg:IntKind.i64.wrap ((a:Int) + g.size)=(a:Int) + g.size:=IntWalk.i64_in _ (by have:=HLE.out;omega);have HGS:=mkA hgs;have HGR:=mkA hgr;clear hgs hgr))
                go_ret2
                exact ⟨by rw [← HT.out,E.out];simp [HGS.out],HGR.out⟩
              · rw [if_pos (of_decide_eq_true hz)] at P
                have E:=mkA P
                have HZ:=mkA hz
                clear P hz
                go_enter Tryz.func96,Tryz.ntmps96
                go_wp2_with (first | (go_at_call 123;(with_reducible refine (letter_calls _ _).mono ?_);rintro e w' ⟨rfl,rfl⟩) | (go_at_call 125;(with_reducible refine (digit_calls _ _).mono ?_);rintro e w' ⟨rfl,rfl⟩) | (go_at_call 120;(with_reducible refine (byteAt_calls s ((a:Int) + 1) _ (by omega)).mono ?_);rintro e w' ⟨rfl,rfl⟩) | (go_at_call 126;(with_reducible refine (numberr_calls s a _ hs ha).mono ?_);rintro e w' ⟨rfl,rfl⟩) | (go_at_call 122;(with_reducible refine (liner_calls s a _ hs ha ?_).mono ?_);exact hB;rintro e w' ⟨rfl,rfl⟩) | (go_at_call 124;(with_reducible refine (word_callsk s a kk _ hs ?_ ?_).mono ?_);exact Nat.le_of_lt ha;exact HKK.out;rintro e w' ⟨rfl,hgr⟩;have HGR:=mkA hgr;clear hgr) | (go_at_call 127;(with_reducible refine (quotedr_calls s a _ hs ha ?_).mono ?_);exact HQ.out;rintro e w' ⟨rfl,⟨nd,rfl⟩⟩) | (go_at_call 128;(with_reducible refine (signr_calls s a _ hs ?_).mono ?_);exact Nat.le_of_lt ha;rintro e w' ⟨⟨g,rfl,hgs⟩,hgr⟩;have hge:=emptyB g;rw [hgs,HZ.out] at hge;have hwg:IntKind.i64.wrap ((a:Int) + g.size)=(a:Int) + g.size:=IntWalk.i64_in _ (by have:=HLE.out;omega);have HGS:=mkA hgs;have HGR:=mkA hgr;clear hgs hgr))
                go_ret2
                exact ⟨by rw [← HT.out,E.out];simp,HGR.out⟩
      · rw [h3,Bool.true_or,if_pos rfl] at P
        have E:=mkA P
        clear P
        go_enter Tryz.func96,Tryz.ntmps96
        go_wp2_with (first | (go_at_call 123;(with_reducible refine (letter_calls _ _).mono ?_);rintro e w' ⟨rfl,rfl⟩) | (go_at_call 125;(with_reducible refine (digit_calls _ _).mono ?_);rintro e w' ⟨rfl,rfl⟩) | (go_at_call 120;(with_reducible refine (byteAt_calls s ((a:Int) + 1) _ (by omega)).mono ?_);rintro e w' ⟨rfl,rfl⟩) | (go_at_call 126;(with_reducible refine (numberr_calls s a _ hs ha).mono ?_);rintro e w' ⟨rfl,rfl⟩) | (go_at_call 122;(with_reducible refine (liner_calls s a _ hs ha ?_).mono ?_);exact hB;rintro e w' ⟨rfl,rfl⟩) | (go_at_call 124;(with_reducible refine (word_callsk s a kk _ hs ?_ ?_).mono ?_);exact Nat.le_of_lt ha;exact HKK.out;rintro e w' ⟨rfl,hgr⟩;have HGR:=mkA hgr;clear hgr) | (go_at_call 127;(with_reducible refine (quotedr_calls s a _ hs ha ?_).mono ?_);exact HQ.out;rintro e w' ⟨rfl,⟨nd,rfl⟩⟩) | (go_at_call 128;(with_reducible refine (signr_calls s a _ hs ?_).mono ?_);exact Nat.le_of_lt ha;rintro e w' ⟨⟨g,rfl,hgs⟩,hgr⟩;have hge:=emptyB g;rw [hgs,HZ.out] at hge;have hwg:IntKind.i64.wrap ((a:Int) + g.size)=(a:Int) + g.size:=IntWalk.i64_in _ (by have:=HLE.out;omega);have HGS:=mkA hgs;have HGR:=mkA hgr;clear hgs hgr))
        go_ret2
        exact ⟨by rw [← HT.out,E.out];simp,World.grownBy.refl _ _⟩
    · rw [h2,if_pos rfl] at P
      obtain ⟨kk,hkk⟩:∃ kk:Int,(if Lx.isKey (s.extract a (Lx.runW s a)) then 2 else 1)=kk:=⟨_,rfl⟩
      rw [hkk] at P
      have HKK:=mkA hkk
      clear hkk
      have E:=mkA P
      clear P
      go_enter Tryz.func96,Tryz.ntmps96
      go_wp2_with (first | (go_at_call 123;(with_reducible refine (letter_calls _ _).mono ?_);rintro e w' ⟨rfl,rfl⟩) | (go_at_call 125;(with_reducible refine (digit_calls _ _).mono ?_);rintro e w' ⟨rfl,rfl⟩) | (go_at_call 120;(with_reducible refine (byteAt_calls s ((a:Int) + 1) _ (by omega)).mono ?_);rintro e w' ⟨rfl,rfl⟩) | (go_at_call 126;(with_reducible refine (numberr_calls s a _ hs ha).mono ?_);rintro e w' ⟨rfl,rfl⟩) | (go_at_call 122;(with_reducible refine (liner_calls s a _ hs ha ?_).mono ?_);exact hB;rintro e w' ⟨rfl,rfl⟩) | (go_at_call 124;(with_reducible refine (word_callsk s a kk _ hs ?_ ?_).mono ?_);exact Nat.le_of_lt ha;exact HKK.out;rintro e w' ⟨rfl,hgr⟩;have HGR:=mkA hgr;clear hgr) | (go_at_call 127;(with_reducible refine (quotedr_calls s a _ hs ha ?_).mono ?_);exact HQ.out;rintro e w' ⟨rfl,⟨nd,rfl⟩⟩) | (go_at_call 128;(with_reducible refine (signr_calls s a _ hs ?_).mono ?_);exact Nat.le_of_lt ha;rintro e w' ⟨⟨g,rfl,hgs⟩,hgr⟩;have hge:=emptyB g;rw [hgs,HZ.out] at hge;have hwg:IntKind.i64.wrap ((a:Int) + g.size)=(a:Int) + g.size:=IntWalk.i64_in _ (by have:=HLE.out;omega);have HGS:=mkA hgs;have HGR:=mkA hgr;clear hgs hgr))
      go_ret2
      exact ⟨by rw [← HT.out,E.out];simp,HGR.out⟩
namespace Lx
theorem pieceEnd_out (s:ByteArray) (a:Nat) (h:s.size ≤ a):pieceEnd s a=a:=by
  have h0:=B_ge (s:=s) (i:=a) h
  unfold pieceEnd
  rw [h0,if_neg (by decide),if_neg (by decide)]
  unfold commentEnd
  rw [h0,if_neg (by simp),if_neg (by simp)]
theorem gap_go (s:ByteArray) (a:Nat) (f:Bool) (h:a < pieceEnd s a):gap s a f=gap s (pieceEnd s a) (firstBehind s a (pieceEnd s a) f):=by
  have hs:a < s.size:=by
    rcases Nat.lt_or_ge a s.size with h1 | h1
    · exact h1
    · rw [pieceEnd_out s a h1] at h;omega
  conv=>lhs;unfold gap
  rw [dif_pos ⟨hs,h⟩]
theorem gap_halt (s:ByteArray) (a:Nat) (f:Bool) (h:¬ a < pieceEnd s a):gap s a f=(a,f):=by
  unfold gap
  rw [dif_neg (fun hh=>h hh.2)]
theorem hasLf_go (s:ByteArray) (i e:Nat) (h:i < e):hasLf s i e=(decide (B s i=10) || hasLf s (i + 1) e):=by
  conv=>lhs;unfold hasLf
  rw [dif_pos h]
theorem hasLf_out (s:ByteArray) (i e:Nat) (h:¬ i < e):hasLf s i e=false:=by
  unfold hasLf
  rw [dif_neg h]
end Lx
theorem info29:(Tryz.prog.info? 29).map (fun i=>(i.zero,i.size,i.bytes))=some (some (.agg #[.int .i64 0,.string ⟨#[]⟩,.string ⟨#[]⟩,.int .i64 0]),4,48):=by kernel_rfl
set_option maxRecDepth 100000 in
set_option maxHeartbeats 8000000 in
theorem allr_calls (s:ByteArray) (w:World) (hs:s.size ≤ 30000) :
    Calls Tryz.prog 61 #[.string s] w fun e w' => ∃ v,e=.returned v∧w'.ownsRow w.heap.size 29 4 v (Lx.scan s).length (tokCells (Lx.scan s))∧Below w.heap.size w w':=by
  have hs':s.size ≤ 1000000:=by omega
  obtain ⟨base,hbase⟩:∃ base,w.heap.size=base:=⟨_,rfl⟩
  rw [hbase]
  have HBASE:=mkA hbase
  clear hbase
  go_enter Tryz.func61,Tryz.ntmps61
  go_wp2_with fail
  go_loopg [3,4,5,6] (s.size + 1) (fun kq v3 v4 v5 v6 W => ∃ (done:List Lx.Tok) (from' a:Nat) (fs f:Bool),v4=.int .i64 from'∧v5=.int .i64 a∧v6=.bool f ∧
    Aside0 (Lx.scan s=done ++ Lx.toks s from' fs∧Lx.gap s from' fs=Lx.gap s a f∧from' ≤ a∧a ≤ s.size∧done.length ≤ from'∧kq=s.size + 1 - a) ∧
    W.ownsRow base 29 4 v3 done.length (tokCells done)∧Below base w W∧base ≤ W.heap.size)
  case atStart=>exact ⟨[],0,0,true,true,rfl,rfl,rfl,⟨rfl,rfl,Nat.le_refl _,Nat.zero_le _,Nat.le_refl _,rfl⟩,own_nil _ _ _ _,Below.refl _ _,by have:=HBASE.out;omega⟩
  case round =>
    obtain ⟨done,fr,a,fs,f,rfl,rfl,rfl,HA,hown,hB,hbs⟩:=hrel
    have ha:=HA.out.2.2.2.1
    by_cases hp:a < Lx.pieceEnd s a
    · obtain ⟨nx,hnx⟩:∃ nx,Lx.pieceEnd s a=nx:=⟨_,rfl⟩
      have hlt:a < s.size:=by
        rcases Nat.lt_or_ge a s.size with h1 | h1
        · exact h1
        · rw [Lx.pieceEnd_out s a h1] at hp;omega
      have hnb:=Lx.pieceEnd_b s a hlt
      have HG:=mkA (Lx.gap_go s a f hp)
      rw [hnx] at hp hnb HG
      have hpd:decide (a < nx)=true:=decide_eq_true hp
      have HOWN:=mkA hown
      have HBB:=mkA hB
      clear hown hB
      go_wp2_with (go_at_call 95;(with_reducible refine (piece_calls s a _ hs' ha).mono ?_);rintro e w' ⟨rfl,rfl⟩;rw [hnx])
      go_loopg [6,8] (nx - a) (fun kq v6 v8 W => ∃ (g:Bool) (i:Nat),v6=.bool g∧v8=.int .i64 i∧Aside0 (a ≤ i∧i ≤ nx∧(g || Lx.hasLf s i nx)=(f || Lx.hasLf s a nx)∧kq=nx - i)∧W=wr)
      case atStart=>exact ⟨f,a,rfl,rfl,⟨Nat.le_refl _,by omega,rfl,rfl⟩,rfl⟩
      case round =>
        obtain ⟨g,i,rfl,rfl,HI,rfl⟩:=hrel
        have hi1:=HI.out.1
        have hi2:=HI.out.2.1
        by_cases hi:i < nx
        · have hid:decide (i < nx)=true:=decide_eq_true hi
          have hgx:=B_get s i (by omega)
          have hil:i < s.size:=by omega
          have hx:=Lx.hasLf_go s i nx hi
          cases h10:(Lx.B s i == 10)
          · rw [decide_eq_false (beq_eq_false_iff_ne.mp h10),Bool.false_or] at hx
            have X:=mkA hx
            clear hx
            go_wp2_with fail
            go_roundg (nx - (i + 1))
            case measure=>have:=HI.out;omega
            case rel=>exact ⟨g,i + 1,rfl,by go_num,⟨by omega,by omega,by rw [← X.out];exact HI.out.2.2.1,rfl⟩,rfl⟩
          · rw [decide_eq_true (beq_iff_eq.mp h10),Bool.true_or] at hx
            have X:=mkA hx
            clear hx
            go_wp2_with fail
            go_roundg (nx - (i + 1))
            case measure=>have:=HI.out;omega
            case rel=>exact ⟨true,i + 1,rfl,by go_num,⟨by omega,by omega,by rw [← HI.out.2.2.1,X.out,Bool.or_true,Bool.true_or],rfl⟩,rfl⟩
        · obtain rfl:i=nx:=by omega
          have hid:decide (i < i)=false:=decide_eq_false (by omega)
          have hga:=B_get s a hlt
          have FG:Aside0 (g=(f || Lx.hasLf s a i)):=⟨by rw [← HI.out.2.2.1,Lx.hasLf_out s i i (by omega),Bool.or_false]⟩
          by_cases h1:i=a + 1
          · have h1':((i:Int) == (a:Int) + 1)=true:=by rw [beq_iff_eq];omega
            cases h2:decide (11 ≤ Lx.B s a)
            · have FB:Aside0 (Lx.firstBehind s a i f=g):=⟨by unfold Lx.firstBehind;rw [if_neg (by have:=of_decide_eq_false h2;omega),FG.out]⟩
              have H1:=mkA h1
              clear h1 hi
              go_wp2_with fail
              go_roundg (s.size + 1 - i)
              case measure=>have:=HA.out;omega
              case rel=>exact ⟨done,fr,i,fs,g,rfl,rfl,rfl,⟨HA.out.1,by rw [HA.out.2.1,HG.out,FB.out],by have:=HA.out;omega,by omega,HA.out.2.2.2.2.1,rfl⟩,HOWN.out,HBB.out,hbs⟩
            · cases h3:decide (Lx.B s a ≤ 13)
              · have FB:Aside0 (Lx.firstBehind s a i f=g):=⟨by unfold Lx.firstBehind;rw [if_neg (by have:=of_decide_eq_false h3;omega),FG.out]⟩
                have H1:=mkA h1
                clear h1 hi
                go_wp2_with fail
                go_roundg (s.size + 1 - i)
                case measure=>have:=HA.out;omega
                case rel=>exact ⟨done,fr,i,fs,g,rfl,rfl,rfl,⟨HA.out.1,by rw [HA.out.2.1,HG.out,FB.out],by have:=HA.out;omega,by omega,HA.out.2.2.2.2.1,rfl⟩,HOWN.out,HBB.out,hbs⟩
              · have FB:Aside0 (Lx.firstBehind s a i f=false):=⟨by unfold Lx.firstBehind;rw [if_pos (by have:=of_decide_eq_true h3;have:=of_decide_eq_true h2;omega)]⟩
                have H1:=mkA h1
                clear h1 hi
                go_wp2_with fail
                go_roundg (s.size + 1 - i)
                case measure=>have:=HA.out;omega
                case rel=>exact ⟨done,fr,i,fs,false,rfl,rfl,rfl,⟨HA.out.1,by rw [HA.out.2.1,HG.out,FB.out],by have:=HA.out;omega,by omega,HA.out.2.2.2.2.1,rfl⟩,HOWN.out,HBB.out,hbs⟩
          · have h1':((i:Int) == (a:Int) + 1)=false:=by rw [beq_eq_false_iff_ne];omega
            have FB:Aside0 (Lx.firstBehind s a i f=g):=⟨by unfold Lx.firstBehind;rw [if_neg (fun hh=>h1 hh.1),FG.out]⟩
            clear h1 hi
            go_wp2_with fail
            go_roundg (s.size + 1 - i)
            case measure=>have:=HA.out;omega
            case rel=>exact ⟨done,fr,i,fs,g,rfl,rfl,rfl,⟨HA.out.1,by rw [HA.out.2.1,HG.out,FB.out],by have:=HA.out;omega,by omega,HA.out.2.2.2.2.1,rfl⟩,HOWN.out,HBB.out,hbs⟩
    · have hpe:Lx.pieceEnd s a=a:=by
        by_cases h1:a < s.size
        · have:=Lx.pieceEnd_b s a h1;omega
        · exact Lx.pieceEnd_out s a (by omega)
      have HG:=mkA (Lx.gap_halt s a f hp)
      have hT:=Lx.toks_step s fr fs (by have:=HA.out;omega)
      rw [HA.out.2.1,HG.out] at hT
      clear hp
      by_cases he:a=s.size
      · have heq:((a:Int) == (s.size:Int))=true:=by rw [beq_iff_eq];omega
        rw [if_pos he] at hT
        have HT:=mkA hT
        clear hT
        have hfr:fr ≤ s.size:=by have:=HA.out;omega
        have HE:=mkA he
        clear he
        go_wp2_with (first | (go_at_call 95;(with_reducible refine (piece_calls s a _ hs' ha).mono ?_);rintro e w' ⟨rfl,rfl⟩;rw [hpe]) | (at_builtin;refine print_append_cells (w0:=wr) base rfl (.tmp 48) (.tmp 54) 22 29 (.agg #[.int .i64 0,.string ⟨#[]⟩,.string ⟨#[]⟩,.int .i64 0]) 4 48 rfl Tryz.underlying22 (by kernel_rfl) rfl (by decide) (by decide) u3 done.length (tokCells done) [.int .i64 0,.string (s.extract fr s.size),.string ⟨#[]⟩,.int .i64 a] rfl (by simp [Act.eval]) rfl (by simp [Value.oneCell']) hown (Below.refl _ _) (by omega) (by have:=HA.out;omega) ?_;intro v1 w1 hv1 hb1 hg1 hat1;have HV1:=mkA hv1;have HB1:=mkA hb1;have HG1:=mkA hg1;clear hv1 hb1 hg1 hat1))
        go_ret
        refine ⟨_,rfl,?_,?_⟩
        · have hL:Lx.scan s=done ++ [⟨0,s.extract fr s.size,⟨#[]⟩,(s.size:Nat)⟩]:=by rw [HA.out.1,HT.out]
          rw [hL,List.length_append]
          unfold tokCells
          rw [List.flatMap_append]
          have:=HV1.out
          rw [HE.out] at this
          exact this
        · exact hB.trans HB1.out
      · have hlt:a < s.size:=by omega
        have heq:((a:Int) == (s.size:Int))=false:=by rw [beq_eq_false_iff_ne];omega
        rw [if_neg he] at hT
        obtain ⟨k,hk⟩:∃ k,(Lx.tokEnd s a f).1=k:=⟨_,rfl⟩
        obtain ⟨en,hen⟩:∃ en,(Lx.tokEnd s a f).2=en:=⟨_,rfl⟩
        have hb:=Lx.tokEnd_b s a f hlt
        dsimp only at hT
        rw [hk,hen] at hT
        rw [hen] at hb
        have HT:=mkA hT
        have hfr:fr ≤ a:=HA.out.2.2.1
        clear hT he
        go_wp2_with (first | (go_at_call 95;(with_reducible refine (piece_calls s a _ hs' ha).mono ?_);rintro e w' ⟨rfl,rfl⟩;rw [hpe]) | (go_at_call 96;(with_reducible refine (tokenr_calls s a f _ hs' hlt).mono ?_);rintro e w' ⟨rfl,hgr⟩;rw [hk,hen];have HGR:=mkA hgr;clear hgr))
        have ho2:=hown.kept HGR.out (Classical.em _)
        have hsz2:=HGR.out.size
        have hen1:a ≤ en:=by omega
        have hen2:=hb.2
        have HOWN:=mkA hown
        have HBB:=mkA hB
        clear hown hB
        obtain ⟨i0,hi0,hz0,hz1,hz2⟩:=info_parts info29
        go_region_held3 (fun w'=>True) (first | go_keep | trivial)
          ((refine step_append_lies _ (by rfl) _ _ _ (by rfl) base 29 i0 _ 4 48 Tryz.underlying22 hi0 hz0 hz1 hz2 rfl (by omega) u3 done.length (tokCells done) (by rfl) ((ho2.alloc _).drew)
              ⟨w'.heap.size,0,none⟩ 1 1 [.int .i64 k,.string (s.extract fr a),.string (s.extract a en),.int .i64 a] (by rfl) (by rfl) (World.news_of_block (cs:=#[.int .i64 k,.string (s.extract fr a),.string (s.extract a en),.int .i64 a]) (t:=29) (fr:=(0,0)) (heap_alloc_new w' _)) (by simp [Value.oneCell'])
              (by omega) (by unfold maxLen;have:=HA.out;omega) (by have:=HA.out;omega) (by simp;omega) (w'.heap.size + 1) (by simp) ?_;intro gg cap w1 hown1 hgrow hat hlt1))
        have HOWN1:=mkA hown1
        have HGROW:=mkA hgrow
        have hsz3:=hgrow.size
        simp at hsz3
        have HO2:=mkA ho2
        clear hown1 hgrow hat hlt1 ho2
        go_wp2_with fail
        go_roundg (s.size + 1 - en)
        case measure=>have:=HA.out;omega
        case rel =>
          refine ⟨done ++ [⟨k,s.extract fr a,s.extract a en,(a:Nat)⟩],en,en,false,false,rfl,rfl,rfl,⟨by rw [HA.out.1,HT.out,List.append_assoc];rfl,rfl,Nat.le_refl _,hen2,?_,rfl⟩,?_,?_,by omega⟩
          · have:=HA.out;rw [List.length_append,List.length_singleton];omega
          · rw [List.length_append,List.length_singleton]
            unfold tokCells
            rw [List.flatMap_append]
            exact HOWN1.out
          · exact (((HBB.out.grown HGR.out hbs (fun k hk=>by cases hk)).alloc (by omega) _).drew).grown HGROW.out (by simp;omega) (fun k hk=>own_base HO2.out k hk)
theorem toks_len (s:ByteArray) (a:Nat) (f:Bool) (h:a ≤ s.size):(Lx.toks s a f).length ≤ s.size - a + 1:=by
  have h1:=Lx.gap_b s a f h
  rw [Lx.toks_step s a f h]
  split
  · simp
  · have h2:=Lx.tokEnd_b s (Lx.gap s a f).1 (Lx.gap s a f).2 (by omega)
    have:=toks_len s (Lx.tokEnd s (Lx.gap s a f).1 (Lx.gap s a f).2).2 false h2.2
    rw [List.length_cons]
    omega
  termination_by s.size - a
theorem scan_len (s:ByteArray):(Lx.scan s).length ≤ s.size + 1:=toks_len s 0 true (Nat.zero_le _)
theorem scanr_calls (s:ByteArray) (w:World) (hs:s.size ≤ 30000) :
    Calls Tryz.prog 39 #[.string s] w fun e w' => ∃ v,e=.returned (.tuple #[v,.int .i64 0])∧w'.ownsRow w.heap.size 29 4 v (Lx.scan s).length (tokCells (Lx.scan s))∧Below w.heap.size w w':=by
  have h1:decide ((200000:Int) < (s.size:Int))=false:=by simp;omega
  obtain ⟨M,hM⟩:∃ M,(Lx.scan s).length=M:=⟨_,rfl⟩
  have hlen:=scan_len s
  rw [hM] at hlen ⊢
  have h2:decide ((40000:Int) < (M:Int))=false:=by simp;omega
  have HM:=mkA hM
  clear hM
  go_enter Tryz.func39,Tryz.ntmps39
  go_wp2_with (go_at_call 61;(refine (allr_calls s _ hs).mono ?_);rintro e w' ⟨v,rfl,hv,hb⟩;rw [HM.out] at hv;obtain ⟨A,c,rfl⟩:=own_slice hv;have HV:=mkA hv;have HB:=mkA hb;clear hv hb)
  go_ret2
  exact ⟨_,rfl,HV.out,HB.out⟩
namespace Lx
structure Same (u v:ByteArray):Prop where
  size:u.size=v.size
  rest:u.data.toList.drop 1=v.data.toList.drop 1
variable {u v:ByteArray}
theorem Same.drop (h:Same u v) (a:Nat) (ha:1 ≤ a):u.data.toList.drop a=v.data.toList.drop a:=by
  obtain ⟨k,rfl⟩:∃ k,a=1 + k:=⟨a - 1,by omega⟩
  rw [← List.drop_drop,← List.drop_drop,h.rest]
theorem Same.B (h:Same u v) (a:Nat) (ha:1 ≤ a):B u a=B v a:=by
  by_cases hl:a < u.size
  · obtain ⟨b,hb,-,hd⟩:=B_at u a hl
    obtain ⟨c,hc,-,he⟩:=B_at v a (by rw [← h.size];exact hl)
    rw [h.drop a ha,he] at hd
    rw [hb,hc,List.cons.inj hd |>.1]
  · rw [B_ge (by omega),B_ge (by rw [← h.size];omega)]
theorem Same.ext (h:Same u v) (a e:Nat) (ha:1 ≤ a):u.extract a e=v.extract a e:=by
  apply ByteArray.ext
  apply Array.toList_inj.1
  rw [Lib.extract_data,Lib.extract_data,h.drop a ha]
theorem Same.runW (h:Same u v) (i:Nat) (hi:1 ≤ i):runW u i=runW v i:=by
  unfold Lx.runW
  rw [← h.size,← h.B i hi]
  split
  · split
    · exact Same.runW h (i + 1) (by omega)
    · rfl
  · rfl
  termination_by u.size - i
theorem Same.runN (h:Same u v) (i:Nat) (hi:2 ≤ i):runN u i=runN v i:=by
  unfold Lx.runN
  rw [← h.size,← h.B i (by omega),← h.B (i - 1) (by omega)]
  split
  · split
    · exact Same.runN h (i + 1) (by omega)
    · rfl
  · rfl
  termination_by u.size - i
theorem Same.runQ (h:Same u v) (m:Int) (a i:Nat) (hi:1 ≤ i):runQ u m a i=runQ v m a i:=by
  unfold Lx.runQ
  rw [← h.size,← h.B i hi,← h.B (i + 1) (by omega)]
  split
  · split
    · rfl
    · split
      · rfl
      · split
        · split
          · rfl
          · exact Same.runQ h m a (i + 2) (by omega)
        · exact Same.runQ h m a (i + 1) (by omega)
  · rfl
  termination_by u.size - i
theorem Same.runL (h:Same u v) (a i:Nat) (ha:1 ≤ a) (hi:a < i):runL u a i=runL v a i:=by
  have hc:lineCut u a i=lineCut v a i:=by unfold Lx.lineCut;rw [h.B (i - 1) (by omega)]
  have e0:=h.B i (by omega)
  have e1:=h.B (i - 1) (by omega)
  have h2:(Lx.B u i=10∧¬(Lx.B u (i - 1)=92 ∨ a + 2 ≤ i∧Lx.B u (i - 1)=13∧Lx.B u (i - 2)=92)) ↔ (Lx.B v i=10∧¬(Lx.B v (i - 1)=92 ∨ a + 2 ≤ i∧Lx.B v (i - 1)=13∧Lx.B v (i - 2)=92)):=by
    rw [e0,e1]
    by_cases hh:a + 2 ≤ i
    · rw [h.B (i - 2) (by omega)]
    · simp [hh]
  unfold Lx.runL
  by_cases hl:i < u.size
  · rw [dif_pos hl,dif_pos (by rw [← h.size];exact hl)]
    by_cases hb:Lx.B u i=10∧¬(Lx.B u (i - 1)=92 ∨ a + 2 ≤ i∧Lx.B u (i - 1)=13∧Lx.B u (i - 2)=92)
    · rw [if_pos hb,if_pos (h2.1 hb),hc]
    · rw [if_neg hb,if_neg (fun hh=>hb (h2.2 hh))]
      exact Same.runL h a (i + 1) ha (by omega)
  · rw [dif_neg hl,dif_neg (by rw [← h.size];exact hl)]
  termination_by u.size - i
theorem Same.runC (h:Same u v) (i:Nat) (hi:1 ≤ i):runC u i=runC v i:=by
  unfold Lx.runC
  rw [← h.size,← h.B i hi,← h.B (i + 1) (by omega)]
  split
  · split
    · rfl
    · exact Same.runC h (i + 1) (by omega)
  · rfl
  termination_by u.size - i
theorem Same.runS (h:Same u v) (i:Nat) (hi:1 ≤ i):runS u i=runS v i:=by
  unfold Lx.runS
  rw [← h.size,← h.B i hi]
  split
  · split
    · rfl
    · exact Same.runS h (i + 1) (by omega)
  · rfl
  termination_by u.size - i
theorem Same.commentEnd (h:Same u v) (a:Nat) (ha:1 ≤ a):commentEnd u a=commentEnd v a:=by
  unfold Lx.commentEnd
  rw [h.B a ha,h.B (a + 1) (by omega),h.runS a ha,h.runC (a + 2) (by omega)]
theorem Same.pieceEnd (h:Same u v) (a:Nat) (ha:1 ≤ a):pieceEnd u a=pieceEnd v a:=by
  unfold Lx.pieceEnd
  rw [h.B a ha,h.B (a + 1) (by omega),h.B (a + 2) (by omega),h.commentEnd a ha]
theorem Same.hasLf (h:Same u v) (i e:Nat) (hi:1 ≤ i):hasLf u i e=hasLf v i e:=by
  unfold Lx.hasLf
  split
  · rw [h.B i hi,Same.hasLf h (i + 1) e (by omega)]
  · rfl
  termination_by e - i
theorem Same.firstBehind (h:Same u v) (a e:Nat) (f:Bool) (ha:1 ≤ a):firstBehind u a e f=firstBehind v a e f:=by
  unfold Lx.firstBehind
  rw [h.B a ha,h.hasLf a e ha]
theorem Same.begins (h:Same u v) (a:Nat) (g:List UInt8) (ha:1 ≤ a):begins u a g=begins v a g:=by
  unfold Lx.begins
  rw [h.drop a ha]
theorem Same.signOf (h:Same u v) (a:Nat) (ha:1 ≤ a):∀ (l:List (List UInt8)) (n:Nat),signOf u a l n=signOf v a l n
  | [],n=>rfl
  | g :: r,n=>by
    unfold Lx.signOf
    rw [h.begins a g ha]
    exact Same.signOf h a ha r _
theorem Same.signLen (h:Same u v) (a:Nat) (ha:1 ≤ a):signLen u a=signLen v a:=h.signOf a ha _ _
theorem Same.quoteEnd (h:Same u v) (m:Int) (a:Nat) (ha:1 ≤ a):quoteEnd u m a=quoteEnd v m a:=by
  unfold Lx.quoteEnd
  rw [h.B a ha,h.runQ m a (a + 1) (by omega)]
theorem Same.gap (h:Same u v) (a:Nat) (f:Bool) (ha:1 ≤ a):gap u a f=gap v a f:=by
  unfold Lx.gap
  rw [h.pieceEnd a ha,← h.size]
  by_cases hc:a < u.size∧a < Lx.pieceEnd v a
  · rw [dif_pos hc,dif_pos hc,h.firstBehind a _ f ha]
    exact Same.gap h _ _ (by omega)
  · rw [dif_neg hc,dif_neg hc]
  termination_by u.size - a
theorem Same.tokEnd (h:Same u v) (a:Nat) (f:Bool) (ha:1 ≤ a):tokEnd u a f=tokEnd v a f:=by
  unfold Lx.tokEnd
  rw [h.B a ha,h.B (a + 1) (by omega),h.runW a ha,h.ext a _ ha,h.runN (a + 1) (by omega),h.quoteEnd _ a ha,h.signLen a ha]
  split
  · rename_i hc
    rw [runL_first u a (by rw [h.B a ha];exact hc.2),runL_first v a hc.2,h.runL a (a + 1) ha (by omega)]
  · rfl
theorem Same.toks (h:Same u v) (a:Nat) (f:Bool) (ha:1 ≤ a) (hs:a ≤ u.size):toks u a f=toks v a f:=by
  have h1:=gap_b u a f hs
  rw [toks_step u a f hs,toks_step v a f (by rw [← h.size];exact hs),h.gap a f ha,h.tokEnd _ _ (by rw [h.gap a f ha] at h1;omega),h.ext a _ ha,h.ext a _ ha,h.ext _ _ (by rw [h.gap a f ha] at h1;omega),← h.size]
  rw [h.gap a f ha] at h1
  split
  · rfl
  · have h2:=tokEnd_b v (Lx.gap v a f).1 (Lx.gap v a f).2 (by rw [← h.size];omega)
    have hdec:u.size - (Lx.tokEnd v (Lx.gap v a f).1 (Lx.gap v a f).2).2 < u.size - a:=by have:=h.size;omega
    rw [Same.toks h _ false (by omega) (by rw [h.size];exact h2.2)]
  termination_by u.size - a
end Lx
end Go.Proofs.YtjnafjgonoficaaGreatDoor
namespace Go.Proofs.YtjnafjgonoficaaGreatDoor
open Go.RowKit Go.Proofs.YtjnafjgonoficaaGreatDoorW.PrintWords
def TokAt (w:World) (g o:Nat) (L:List Lx.Tok):Prop:=∀ i t,L[i]? = some t →
  w.cell? ⟨g,o + i * 4,none⟩=some (.int .i64 t.k)∧w.cell? ⟨g,o + i * 4 + 1,none⟩=some (.string t.b)∧w.cell? ⟨g,o + i * 4 + 2,none⟩=some (.string t.t)∧w.cell? ⟨g,o + i * 4 + 3,none⟩=some (.int .i64 t.a)
theorem tokCells_at (L:List Lx.Tok) (i:Nat) (t:Lx.Tok) (h:L[i]? = some t) :
    (tokCells L)[i * 4]? = some (.int .i64 t.k)∧(tokCells L)[i * 4 + 1]? = some (.string t.b)∧(tokCells L)[i * 4 + 2]? = some (.string t.t)∧(tokCells L)[i * 4 + 3]? = some (.int .i64 t.a):=by
  induction L generalizing i with
  | nil=>simp at h
  | cons x r ih =>
    unfold tokCells
    rw [List.flatMap_cons]
    cases i with
    | zero=>simp at h;subst h;simp
    | succ i =>
      have:=ih i (by simpa using h)
      unfold tokCells at this
      simp only [Nat.succ_mul]
      refine ⟨?_,?_,?_,?_⟩
      · rw [List.getElem?_append_right (by simp)];simpa using this.1
      · rw [List.getElem?_append_right (by simp)];have h2:=this.2.1;simpa [show i * 4 + 4 + 1 - 4=i * 4 + 1 by omega] using h2
      · rw [List.getElem?_append_right (by simp)];have h2:=this.2.2.1;simpa [show i * 4 + 4 + 2 - 4=i * 4 + 2 by omega] using h2
      · rw [List.getElem?_append_right (by simp)];have h2:=this.2.2.2;simpa [show i * 4 + 4 + 3 - 4=i * 4 + 3 by omega] using h2
theorem add_none (g o j:Nat):(⟨g,o,none⟩:Addr).add j=⟨g,o + j,none⟩:=by unfold Addr.add;split <;> simp_all
def Tks (w:World) (v:Value) (L:List Lx.Tok):Prop:=∃ A c,v=.slice A L.length c∧L.length ≤ c∧c ≤ maxLen∧(L=[] ∨ ∃ g o,A=some ⟨g,o,none⟩∧TokAt w g o L∧g < w.heap.size)
theorem own_tks {w:World} {base:Nat} {v:Value} {L:List Lx.Tok} (h:w.ownsRow base 29 4 v L.length (tokCells L)):Tks w v L:=by
  have hc:=fun g=>h.cells (g:=g)
  rcases h.2 with ⟨rfl,hx⟩ | ⟨g,cap,cur,rfl,hb,hh,h1,h2,-,-⟩
  · exact ⟨none,0,by rw [hx],by omega,Nat.zero_le _,.inl (List.eq_nil_of_length_eq_zero hx)⟩
  · refine ⟨_,cap,rfl,h1,h2,.inr ⟨g,0,rfl,?_,(Array.getElem?_eq_some_iff.1 hh).1⟩⟩
    intro i t ht
    obtain ⟨e0,e1,e2,e3⟩:=tokCells_at L i t ht
    have k0:=hc g rfl _ _ e0
    have k1:=hc g rfl _ _ e1
    have k2:=hc g rfl _ _ e2
    have k3:=hc g rfl _ _ e3
    rw [add_none] at k0 k1 k2 k3
    exact ⟨k0,by rw [show 0 + i * 4 + 1=0 + (i * 4 + 1) from by omega];exact k1,by rw [show 0 + i * 4 + 2=0 + (i * 4 + 2) from by omega];exact k2,by rw [show 0 + i * 4 + 3=0 + (i * 4 + 3) from by omega];exact k3⟩
theorem TokAt.below {w w':World} {g o:Nat} {L:List Lx.Tok} (h:TokAt w g o L) (hb:Below w.heap.size w w') (hg:g < w.heap.size):TokAt w' g o L:=fun i t ht=>by
  obtain ⟨a0,a1,a2,a3⟩:=h i t ht
  exact ⟨(hb.cell hg).trans a0,(hb.cell hg).trans a1,(hb.cell hg).trans a2,(hb.cell hg).trans a3⟩
theorem Tks.below {w w':World} {v:Value} {L:List Lx.Tok} (h:Tks w v L) (hb:Below w.heap.size w w'):Tks w' v L:=by
  obtain ⟨A,c,e,h1,h2,h3⟩:=h
  refine ⟨A,c,e,h1,h2,h3.imp id ?_⟩
  rintro ⟨g,o,e2,h4,h5⟩
  exact ⟨g,o,e2,h4.below hb h5,Nat.lt_of_lt_of_le h5 hb.size⟩
namespace Lx
def pre (c:UInt8) (s:ByteArray):ByteArray:=(⟨#[c]⟩:ByteArray) ++ s
theorem pre_list (c:UInt8) (s:ByteArray):(pre c s).data.toList=c :: s.data.toList:=by
  unfold pre
  rw [show ((⟨#[c]⟩:ByteArray) ++ s).data=(⟨#[c]⟩:ByteArray).data ++ s.data from by simp [ByteArray.data_append]]
  simp
theorem pre_size (c:UInt8) (s:ByteArray):(pre c s).size=s.size + 1:=by
  rw [← data_length,pre_list,List.length_cons,data_length]
theorem pre_same (c d:UInt8) (s:ByteArray):Same (pre c s) (pre d s):=⟨by rw [pre_size,pre_size],by rw [pre_list,pre_list];rfl⟩
theorem pre_B0 (c:UInt8) (s:ByteArray):B (pre c s) 0=(c.toNat:Int):=by
  obtain ⟨b,hb,hg,-⟩:=B_at (pre c s) 0 (by rw [pre_size];omega)
  rw [pre_list] at hg
  simp at hg
  rw [hb,hg]
theorem pre_sign (c:UInt8) (s:ByteArray) (h:c=40 ∨ c=59):signLen (pre c s) 0=1:=by
  unfold signLen signs
  rcases h with rfl | rfl <;> simp [signOf,begins,pre_list,List.isPrefixOf]
theorem pre_scan (c:UInt8) (s:ByteArray) (h:c=40 ∨ c=59):scan (pre c s)=⟨6,(pre c s).extract 0 0,(pre c s).extract 0 1,0⟩ :: toks (pre c s) 1 false:=by
  have h0:=pre_B0 c s
  have hp:pieceEnd (pre c s) 0=0:=by
    unfold pieceEnd commentEnd
    rw [h0]
    rcases h with rfl | rfl <;> simp
  have hg:=gap_halt (pre c s) 0 true (by rw [hp];omega)
  have ht:tokEnd (pre c s) 0 true=(6,1):=by
    unfold tokEnd
    rw [h0,pre_sign c s h]
    rcases h with rfl | rfl <;> simp [isL,isD]
  unfold scan
  rw [toks_step _ 0 true (Nat.zero_le _),hg]
  dsimp only
  rw [ht,pre_size,if_neg (by omega)]
  rfl
def wline (add:Int):List Tok → List Tok × Option Nat
  | []=>([],none)
  | t :: r=>if t.k=0 then wline add r else if t.k=7 then ([⟨6,t.b,⟨#[35]⟩,t.a - 1 + add⟩],some t.a.toNat)
    else (⟨t.k,t.b,t.t,t.a - 1 + add⟩ :: (wline add r).1,(wline add r).2)
def wd (s:ByteArray) (add:Int):List Tok :=
  match (wline add (toks (pre 59 s) 1 false)).2 with
  | none=>(wline add (toks (pre 59 s) 1 false)).1
  | some n=>if h:0 < n∧n ≤ s.size then (wline add (toks (pre 59 s) 1 false)).1 ++ wd (s.extract n s.size) (add + n) else (wline add (toks (pre 59 s) 1 false)).1
  termination_by s.size
  decreasing_by rw [ByteArray.size_extract];omega
theorem toks_last (s:ByteArray) (a:Nat) (f:Bool) (h:a ≤ s.size):∃ (l:List Tok) (b:ByteArray),toks s a f=l ++ [⟨0,b,⟨#[]⟩,(s.size:Nat)⟩]∧(∀ t ∈ l,t.k ≠ 0∧∃ p:Nat,t.a=(p:Int)∧a ≤ p∧p < s.size):=by
  have h1:=gap_b s a f h
  rw [toks_step s a f h]
  split
  · exact ⟨[],_,rfl,by simp⟩
  · have h2:=tokEnd_b s (gap s a f).1 (gap s a f).2 (by omega)
    obtain ⟨l,b,e,hl⟩:=toks_last s (tokEnd s (gap s a f).1 (gap s a f).2).2 false h2.2
    refine ⟨_ :: l,b,by rw [e];rfl,?_⟩
    intro t ht
    rcases List.mem_cons.1 ht with rfl | ht
    · refine ⟨?_,(gap s a f).1,rfl,h1.1,by omega⟩
      show (tokEnd s (gap s a f).1 (gap s a f).2).1 ≠ 0
      unfold tokEnd
      repeat' split
      all_goals simp
    · obtain ⟨k,p,e,hp1,hp2⟩:=hl t ht
      exact ⟨k,p,e,by omega,hp2⟩
  termination_by s.size - a
theorem toks_asc (s:ByteArray) (a:Nat) (f:Bool) (h:a ≤ s.size):∀ (i:Nat) (t:Tok),(toks s a f)[i]? = some t → (a:Int) + i ≤ t.a∧t.a ≤ s.size:=by
  have h1:=gap_b s a f h
  rw [toks_step s a f h]
  split
  · intro i t ht
    cases i with
    | zero=>simp at ht;subst ht;simp;omega
    | succ i=>simp at ht
  · have h2:=tokEnd_b s (gap s a f).1 (gap s a f).2 (by omega)
    have ih:=toks_asc s (tokEnd s (gap s a f).1 (gap s a f).2).2 false h2.2
    intro i t ht
    cases i with
    | zero=>simp at ht;subst ht;simp;omega
    | succ i=>have:=ih i t (by simpa using ht);omega
  termination_by s.size - a
theorem wline_end (add:Int) (l:List Tok) (b:ByteArray) (e:ByteArray) (p:Int):wline add (l ++ [⟨0,b,e,p⟩])=wline add l:=by
  induction l with
  | nil=>simp [wline]
  | cons t r ih =>
    rw [List.cons_append]
    unfold wline
    rw [ih]
theorem wline_len (add:Int) (l:List Tok):(wline add l).1.length ≤ l.length:=by
  induction l with
  | nil=>simp [wline]
  | cons t r ih =>
    unfold wline
    split
    · simp;omega
    · split
      · simp
      · simp;omega
theorem wline_at (add:Int) (l:List Tok) (n:Nat) (h:(wline add l).2=some n):∃ i t,l[i]? = some t∧t.k=7∧t.a.toNat=n∧(wline add l).1.length ≤ i + 1:=by
  induction l with
  | nil=>simp [wline] at h
  | cons t r ih =>
    unfold wline at h ⊢
    split at h
    · rename_i h0
      rw [if_pos h0]
      obtain ⟨i,t',h1,h2,h3,h4⟩:=ih h
      exact ⟨i + 1,t',by simpa using h1,h2,h3,by omega⟩
    · rename_i h0
      rw [if_neg h0]
      split at h
      · rename_i h7
        rw [if_pos h7]
        exact ⟨0,t,rfl,h7,by simpa using h,by simp⟩
      · rename_i h7
        rw [if_neg h7]
        obtain ⟨i,t',h1,h2,h3,h4⟩:=ih h
        exact ⟨i + 1,t',by simpa using h1,h2,h3,by simp;omega⟩
theorem wd_len (s:ByteArray) (add:Int):(wd s add).length ≤ s.size + 1:=by
  have hb:=pre_size 59 s
  have h1:=toks_len (pre 59 s) 1 false (by omega)
  have h2:=wline_len add (toks (pre 59 s) 1 false)
  unfold wd
  split
  · omega
  · rename_i n hn
    split
    · rename_i hh
      obtain ⟨i,t,e1,-,e3,e4⟩:=wline_at add _ n hn
      have h3:=toks_asc (pre 59 s) 1 false (by omega) i t e1
      have h4:=wd_len (s.extract n s.size) (add + n)
      rw [ByteArray.size_extract] at h4
      rw [List.length_append]
      omega
    · omega
  termination_by s.size
  decreasing_by rw [ByteArray.size_extract];omega
end Lx
theorem tokCells_one (L:List Lx.Tok):∀ u ∈ tokCells L,u.oneCell'=true:=by
  intro u hu
  unfold tokCells at hu
  obtain ⟨t,-,ht⟩:=List.mem_flatMap.1 hu
  simp at ht
  rcases ht with rfl | rfl | rfl | rfl <;> rfl
theorem tokCells_len (L:List Lx.Tok):(tokCells L).length=L.length * 4:=by
  unfold tokCells
  induction L with
  | nil=>rfl
  | cons t r ih=>rw [List.flatMap_cons,List.length_append,ih,List.length_cons];simp;omega
theorem tokCells_app (D L:List Lx.Tok):tokCells (D ++ L)=tokCells D ++ tokCells L:=List.flatMap_append
theorem tok_append_own {ops:Array Oper} {rest:List Oper} {o:Oper} {a:Act} {Q:Exit → Act → World → Prop} {W:World} (base base2:Nat) (hgd:o.guard=none) (s x:Operand)
    (ho:o.op=.call { callee:=.builtin .append,args:=#[s,x],argTypes:=#[22,22] }) (v v2:Value) (D L:List Lx.Tok) (hs:a.eval s=v) (hx:a.eval x=v2)
    (H1:W.ownsRow base 29 4 v D.length (tokCells D)) (H2:W.ownsRow base2 29 4 v2 L.length (tokCells L)) (hbase:base ≤ W.heap.size) (hl:D.length + L.length ≤ 1000000)
    (h:∀ v1 w1,w1.ownsRow base 29 4 v1 (D ++ L).length (tokCells (D ++ L)) → W.grownBy w1 v.ownBlock → wpList Tryz.prog ops Q rest (a.put o.dst v1) w1) :
    wpList Tryz.prog ops Q (o :: rest) a W:=by
  obtain ⟨i0,hi,hz0,hz1,hz2⟩:=info_parts info29
  have hc:=fun g=>H2.cells (g:=g)
  rcases H2.2 with ⟨rfl,hn⟩ | ⟨g,cap,cur,rfl,hb,hh,h1,h2,-,-⟩
  · obtain rfl:L=[]:=List.eq_nil_of_length_eq_zero hn
    have hr:(Builtin.append_ #[22,22] o.type #[v,.slice none 0 0]).run Tryz.prog W=.ok v W:=by
      rcases H1.2 with ⟨rfl,hn⟩ | ⟨g,cap,cur,rfl,_,_,hnc,_⟩
      · simp [Builtin.append_,run_underlying Tryz.underlying22,sizeOf,typeInfo,hi,Builtin.lenOf,Builtin.firstCells]
      · simp [Builtin.append_,run_underlying Tryz.underlying22,sizeOf,typeInfo,hi,Builtin.lenOf,Builtin.firstCells,hnc,storeCells]
    refine wpList_plain hgd fun K hK => ?_
    unfold Oper.wp execOp
    simp only [ho,resolve,invoke,builtin,Sem.run_bind,Sem.run_pure,Result.andThen_ok,List.map_toArray,List.map_cons,List.map_nil,hs,hx,hr]
    exact hK _ _ (h v W (by simpa using H1) (World.grownBy.refl W _))
  · refine wpList_append_own_at W hgd s x 22 ho base 29 i0 _ 4 48 Tryz.underlying22 hi hz0 hz1 hz2 rfl (by omega) v D.length (tokCells D) hs H1 ⟨g,0,none⟩ L.length cap (tokCells L) hx (tokCells_len L) (hc g rfl) (tokCells_one L) (by unfold maxLen;omega) (by omega) hbase ?_
    intro v' w' e1 e2 _ _
    exact h v' w' (by rw [List.length_append,tokCells_app];exact e1) e2
end Go.Proofs.YtjnafjgonoficaaGreatDoor
