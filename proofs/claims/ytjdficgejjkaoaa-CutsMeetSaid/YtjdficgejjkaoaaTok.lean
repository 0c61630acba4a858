/- Names: tokens.Name and the document's answer are the same plain answer. -/
import Derived.Test.YtjdficgejjkaoaaSize
import Derived.Lib.OthersKept
import Derived.Maps.AppendAt
namespace Go.Proofs.Ytjdficgejjkaoaa
open Go.RowKit
set_option linter.unusedVariables false

theorem str_eq0 {a b : ByteArray} : (a.toList == b.toList) = true ↔ a = b := by
  rw [beq_iff_eq, ByteArray.toList_eq, ByteArray.toList_eq, Array.toList_inj]
  exact ⟨fun h => by cases a; cases b; cases h; rfl, fun h => by rw [h]⟩
theorem str_ne0 {a b : ByteArray} (h : (a.toList == b.toList) = false) : ¬ a = b := fun e => by rw [str_eq0.2 e] at h; cases h
instance decBytes : DecidableEq ByteArray := fun a b => if h : a.data = b.data then .isTrue (by cases a; cases b; cases h; rfl) else .isFalse (fun e => h (by rw [e]))
def letR (c : Int) : Bool := (decide (97 ≤ c) && decide (c ≤ 122)) || (decide (65 ≤ c) && decide (c ≤ 90))
def digR (c : Int) : Bool := decide (48 ≤ c) && decide (c ≤ 57)
/-- May a word go on so; first: it begins there. -/
def goodR (later : Bool) (c : Int) : Bool := letR c || (later && (digR c || decide (c = 95)))
def goodB (s : ByteArray) (k : Nat) : Bool := if h : k < s.size then goodR (decide (0 < k)) ((s[k]'h).toNat : Int) else false
/-- So many bytes make a word. -/
def Word (s : ByteArray) (n : Nat) : Prop := n ≤ s.size ∧ (∀ k, k < n → goodB s k = true) ∧ (n < s.size → goodB s n = false)
theorem Word.all {s : ByteArray} {n : Nat} (h : Word s n) : n = s.size ↔ ∀ k, k < s.size → goodB s k = true := by
  obtain ⟨h1, h2, h3⟩ := h
  constructor
  · rintro rfl; exact h2
  · intro ha
    by_cases hn : n = s.size
    · exact hn
    · have := h3 (by omega)
      rw [ha n (by omega)] at this
      cases this
theorem letR_high {a : Bool} {c : Int} (h : 128 ≤ c) : goodR a c = false := by
  have e1 : decide (c ≤ 122) = false := decide_eq_false (by omega)
  have e2 : decide (c ≤ 90) = false := decide_eq_false (by omega)
  have e3 : decide (c ≤ 57) = false := decide_eq_false (by omega)
  have e4 : decide (c = 95) = false := decide_eq_false (by omega)
  simp [goodR, letR, digR, e1, e2, e3, e4]
theorem ret_b {a b : Bool} {w : World} (h : a = b) : Ending.returned (Value.bool a) = Ending.returned (Value.bool b) ∧ w = w := ⟨by rw [h], rfl⟩
theorem letter_one (c : Int) (w : World) : Calls Try.prog 105 #[.int .i32 c] w fun e w' => e = .returned (.bool (letR c)) ∧ w' = w := by
  go_enter Try.func105, Try.ntmps105
  go_wp2_with fail
  all_goals go_ret
  all_goals refine ret_b (Bool.eq_iff_iff.2 ?_)
  all_goals simp only [letR, Bool.or_eq_true, Bool.and_eq_true, decide_eq_true_eq, true_iff, Bool.false_eq_true, false_iff]
  all_goals omega
theorem digit_one (c : Int) (w : World) : Calls Try.prog 106 #[.int .i32 c] w fun e w' => e = .returned (.bool (digR c)) ∧ w' = w := by
  go_enter Try.func106, Try.ntmps106
  go_wp2_with fail
  all_goals go_ret
  all_goals refine ret_b (Bool.eq_iff_iff.2 ?_)
  all_goals simp only [digR, Bool.and_eq_true, decide_eq_true_eq, Bool.false_eq_true, false_iff]
  all_goals omega
theorem refLetter_one (c : Int) (w : World) : Calls Try.prog 110 #[.int .u8 c] w fun e w' => e = .returned (.bool (letR c)) ∧ w' = w := by
  go_enter Try.func110, Try.ntmps110
  go_wp2_with fail
  all_goals go_ret
  all_goals refine ret_b (Bool.eq_iff_iff.2 ?_)
  all_goals simp only [letR, Bool.or_eq_true, Bool.and_eq_true, decide_eq_true_eq, true_iff, Bool.false_eq_true, false_iff]
  all_goals omega
theorem refDigit_one (c : Int) (w : World) : Calls Try.prog 111 #[.int .u8 c] w fun e w' => e = .returned (.bool (digR c)) ∧ w' = w := by
  go_enter Try.func111, Try.ntmps111
  go_wp2_with fail
  all_goals go_ret
  all_goals refine ret_b (Bool.eq_iff_iff.2 ?_)
  all_goals simp only [digR, Bool.and_eq_true, decide_eq_true_eq, Bool.false_eq_true, false_iff]
  all_goals omega
theorem wordRune_one (k : Nat) (c : Int) (w : World) : Calls Try.prog 104 #[.int .i64 k, .int .i32 c] w fun e w' => e = .returned (.bool (goodR (decide (0 < k)) c)) ∧ w' = w := by
  have hl := letter_one c w
  have hd := digit_one c w
  generalize hL : letR c = L at *
  generalize hD : digR c = D at *
  have hG : goodR (decide (0 < k)) c = (L || (decide (0 < k) && (D || decide (c = 95)))) := by rw [goodR, hL, hD]
  rw [hG]
  clear hG hL hD
  go_enter Try.func104, Try.ntmps104
  go_wp2_with fail
  refine hl.mono ?_
  rintro e w' ⟨rfl, rfl⟩
  cases L
  · by_cases hk : 0 < k
    · have hk' : (0 : Int) < (k : Int) := by omega
      go_wp2_with fail
      refine hd.mono ?_
      rintro e w' ⟨rfl, rfl⟩
      cases D
      · go_wp2_with fail
        go_ret
        exact ret_b (by simp [hk]; rw [Bool.eq_iff_iff]; simp)
      · go_wp2_with fail
        go_ret
        exact ret_b (by simp [hk])
    · have hk' : ¬ (0 : Int) < (k : Int) := by omega
      go_wp2_with fail
      go_ret
      exact ret_b (by simp [hk])
  · go_wp2_with fail
    go_ret
    exact ret_b (by simp)
set_option maxHeartbeats 1000000 in
theorem run_one (s : ByteArray) (hs : s.size ≤ maxLen) (w : World) : Calls Try.prog 103 #[.string s, .func (.func 104) #[] #[]] w fun e w' => (∃ n : Nat, e = .returned (.int .i64 n) ∧ Word s n) ∧ Ext w w' := by
  go_enter Try.func103, Try.ntmps103
  go_wp2_with fail
  go_loopw [] (fun wr => ∃ k : Nat, k ≤ s.size ∧ (∀ j, j < k → goodB s j = true) ∧ wr.heap[w.heap.size]? = some (.stringIter s k) ∧ Ext w wr) (fun wr => s.size - wr.iterPos w.heap.size)
  case atStart =>
    refine ⟨0, Nat.zero_le _, fun j hj => by omega, ?_, (Chg.refl _ _).alloc _⟩
    have := World.iter_heap w s 0
    simpa using this
  case round =>
    obtain ⟨k, hk, hall, hit, hE⟩ := hrel
    by_cases hp : k < s.size
    · have hgB : goodB s k = goodR (decide (0 < k)) ((s[k]'hp).toNat : Int) := by rw [goodB, dif_pos hp]
      by_cases ha : (s[k]'hp).toNat < 128
      · have hnx : ∀ ty, (Instr.next (.pointer (some ⟨w.heap.size, 0, none⟩)) true ty).run Try.prog wr = _ := fun ty => Lib.run_next_ascii_at wr w.heap.size s k ty hit hp ha
        have hit2 := Lib.iterAt_heap wr w.heap.size s k (k + 1) hit
        generalize ((s[k]'hp).toNat : Int) = c at *
        have hc := wordRune_one k c
        rw [← hgB] at hc
        have E2 : Ext w (wr.iterAt w.heap.size s (k + 1)) := Ext.of_below (Lib.below_iterAt (Ext.below hE) (Nat.le_refl _) s (k + 1))
        go_wp2_with fail
        refine (hc _).mono ?_
        rintro e w1 ⟨rfl, rfl⟩
        cases hG : goodB s k
        · go_wp2_with fail
          go_ret
          exact ⟨⟨k, rfl, hk, hall, fun _ => hG⟩, E2⟩
        · go_wp2_with fail
          go_roundw
          case rel =>
            have hall' : ∀ j, j < k + 1 → goodB s j = true := fun j hj => by
              by_cases h : j < k
              · exact hall j h
              · obtain rfl : j = k := by omega
                exact hG
            exact ⟨k + 1, by omega, hall', hit2, E2⟩
          case measure => simp only [World.iterPos, hit2, hit]; omega
      · have hnx : ∀ ty, (Instr.next (.pointer (some ⟨w.heap.size, 0, none⟩)) true ty).run Try.prog wr = _ := fun ty => Lib.run_next_any_at wr w.heap.size s k ty hit hp
        have hG : goodB s k = false := by rw [hgB]; exact letR_high (by omega)
        have hd := (decode_high s k hp (by omega)).1
        have hc := wordRune_one k ((Utf8.decode s k).1 : Int)
        rw [letR_high (by omega)] at hc
        have E2 : Ext w (wr.iterAt w.heap.size s (k + (Utf8.decode s k).2)) := Ext.of_below (Lib.below_iterAt (Ext.below hE) (Nat.le_refl _) s _)
        generalize (Utf8.decode s k).2 = m at *
        generalize ((Utf8.decode s k).1 : Int) = c at *
        clear hd
        go_wp2_with fail
        refine (hc _).mono ?_
        rintro e w1 ⟨rfl, rfl⟩
        go_wp2_with fail
        go_ret
        exact ⟨⟨k, rfl, hk, hall, fun _ => hG⟩, E2⟩
    · have hnx : ∀ ty, (Instr.next (.pointer (some ⟨w.heap.size, 0, none⟩)) true ty).run Try.prog wr = _ := fun ty => Lib.run_next_end_at wr w.heap.size s k ty hit hp
      go_wp2_with fail
      go_ret
      exact ⟨⟨s.size, rfl, Nat.le_refl _, fun j hj => hall j (by omega), fun h => by omega⟩, hE⟩
theorem ofWord_one (s : ByteArray) (hs : s.size ≤ maxLen) (w : World) : Calls Try.prog 93 #[.string s] w fun e w' => (∃ n : Nat, e = .returned (.int .i64 n) ∧ Word s n) ∧ Ext w w' := by
  go_enter Try.func93, Try.ntmps93
  go_wp2_with fail
  refine (run_one s hs _).mono ?_
  rintro e w1 ⟨⟨n, rfl, hW⟩, hE⟩
  go_wp2_with fail
  go_ret
  exact ⟨⟨n, rfl, hW⟩, hE⟩
set_option maxHeartbeats 1000000 in
theorem refWord_one (s : ByteArray) (hs : s.size ≤ maxLen) (w : World) : Calls Try.prog 100 #[.string s, .int .i64 0] w fun e w' => (∃ n : Nat, e = .returned (.int .i64 n) ∧ Word s n) ∧ Ext w w' := by
  replace hs : s.size ≤ 9223372036854775807 := hs
  go_enter Try.func100, Try.ntmps100
  go_wp2_with fail
  go_loop [5] (fun i => ∃ k : Nat, k ≤ s.size ∧ i = .int .i64 k ∧ (∀ j, j < k → goodB s j = true)) (fun i => s.size - (intOf i).toNat)
  case atStart => exact ⟨0, Nat.zero_le _, rfl, fun j hj => by omega⟩
  case round =>
    obtain ⟨k, hk, rfl, hall⟩ := hrel
    by_cases hp : k < s.size
    · have q1 : (k : Int) < (s.size : Int) := by omega
      have hgB : goodB s k = goodR (decide (0 < k)) ((s[k]'hp).toNat : Int) := by rw [goodB, dif_pos hp]
      have hl := refLetter_one ((s[k]'hp).toNat : Int) w
      have hd := refDigit_one ((s[k]'hp).toNat : Int) w
      have hG : goodB s k = (letR ((s[k]'hp).toNat : Int) || (decide (0 < k) && (digR ((s[k]'hp).toNat : Int) || decide (((s[k]'hp).toNat : Int) = 95)))) := by rw [hgB, goodR]
      have hnext : goodB s k = true → ∀ j, j < k + 1 → goodB s j = true := fun hg j hj => by
        by_cases h : j < k
        · exact hall j h
        · obtain rfl : j = k := by omega
          exact hg
      clear hgB
      generalize letR ((s[k]'hp).toNat : Int) = L at *
      generalize digR ((s[k]'hp).toNat : Int) = D at *
      go_wp2_with fail
      refine hl.mono ?_
      rintro e w' ⟨rfl, rfl⟩
      cases L
      · by_cases hk0 : 0 < k
        · have hk' : (0 : Int) < (k : Int) := by omega
          go_wp2_with fail
          refine hd.mono ?_
          rintro e w' ⟨rfl, rfl⟩
          cases D
          · by_cases h95 : ((s[k]'hp).toNat : Int) = 95
            · go_wp2_with fail
              go_round
              case rel => exact ⟨k + 1, by omega, by go_num, hnext (by simp [hG, hk0, h95])⟩
              case measure => simp [intOf]; omega
            · go_wp2_with fail
              go_ret
              exact ⟨⟨k, by simp, hk, hall, fun _ => by simp [hG, h95]⟩, Chg.refl _ _⟩
          · go_wp2_with fail
            go_round
            case rel => exact ⟨k + 1, by omega, by go_num, hnext (by simp [hG, hk0])⟩
            case measure => simp [intOf]; omega
        · have hk' : ¬ (0 : Int) < (k : Int) := by omega
          obtain rfl : k = 0 := by omega
          go_wp2_with fail
          go_ret
          exact ⟨⟨0, rfl, hk, hall, fun _ => by simp [hG]⟩, Chg.refl _ _⟩
      · go_wp2_with fail
        go_round
        case rel => exact ⟨k + 1, by omega, by go_num, hnext (by simp [hG])⟩
        case measure => simp [intOf]; omega
    · obtain rfl : k = s.size := by omega
      go_wp2_with fail
      go_ret
      exact ⟨⟨s.size, rfl, Nat.le_refl _, hall, fun h => by omega⟩, Chg.refl _ _⟩
def RetIdx (l : List ByteArray) (s : ByteArray) (w : World) (e : Ending) (w' : World) : Prop := (∃ n : Int, e = .returned (.int .i64 n) ∧ (0 ≤ n ↔ s ∈ l)) ∧ Ext w w'
set_option maxHeartbeats 1000000 in
theorem sIndex_any (l : List ByteArray) (a : Option Addr) (cap : Nat) (s : ByteArray) (w : World) (h : RdStrV w 0 false l (.slice a l.length cap)) :
    Calls Try.prog 107 #[.slice a l.length cap, .string s] w (RetIdx l s w) := by
  have hn : l.length ≤ 9000000000000000000 := by obtain ⟨_, _, _, hf, _⟩ := h; unfold fitsR at hf; omega
  go_enter Try.func107, Try.ntmps107
  go_wp2_with fail
  go_loop [8] (fun i => ∃ k : Nat, k ≤ l.length ∧ i = .int .i64 k ∧ s ∉ l.take k) (fun i => l.length - (intOf i).toNat)
  case atStart => exact ⟨0, Nat.zero_le _, rfl, by simp⟩
  case round =>
    obtain ⟨k, hk, rfl, hE⟩ := hrel
    by_cases hlt : k < l.length
    · have hx := List.getElem?_eq_getElem hlt
      obtain ⟨_, _, e, _, _, _, hr, _⟩ := h
      simp only [Value.slice.injEq, true_and] at e
      obtain ⟨rfl, rfl⟩ := e
      obtain ⟨_, b, o, rfl, _, hb, c0⟩ := hr k _ hx
      have q1 : (k : Int) < (l.length : Int) := by omega
      have hmem : l[k] ∈ l := List.getElem_mem hlt
      have htake : l.take (k + 1) = l.take k ++ [l[k]] := by rw [List.take_add_one, hx]; rfl
      generalize l[k] = x at *
      clear hr hx
      go_wp2_with fail
      · have hxs := str_eq0.1 ‹(s.toList == x.toList) = true›
        go_ret
        exact ⟨⟨k, rfl, by simp [hxs, hmem]⟩, Chg.refl _ _⟩
      · have hxs := str_ne0 ‹(s.toList == x.toList) = false›
        go_round
        case rel => exact ⟨k + 1, by omega, by go_num, by rw [htake]; simp [hE, hxs]⟩
        case measure => simp [intOf]; omega
    · obtain rfl : k = l.length := by omega
      rw [List.take_length] at hE
      go_wp2_with fail
      go_ret
      exact ⟨⟨(-1 : Int), rfl, ⟨fun h => absurd h (by decide), fun h => absurd h hE⟩⟩, Chg.refl _ _⟩
theorem sContains_any (l : List ByteArray) (a : Option Addr) (cap : Nat) (s : ByteArray) (w : World) (h : RdStrV w 0 false l (.slice a l.length cap)) :
    Calls Try.prog 94 #[.slice a l.length cap, .string s] w fun e w' => e = .returned (.bool (l.any fun x => decide (x = s))) ∧ Ext w w' := by
  go_enter Try.func94, Try.ntmps94
  go_wp2_with fail
  refine (sIndex_any l a cap s w h).mono ?_
  rintro e w1 ⟨⟨n, rfl, hn⟩, hE⟩
  go_wp2_with fail
  go_ret
  refine ⟨congrArg (fun b => Ending.returned (Value.bool b)) (Bool.eq_iff_iff.2 ?_), hE⟩
  rw [decide_eq_true_eq, List.any_eq_true]
  exact ⟨fun h => ⟨s, hn.1 h, by simp⟩, fun ⟨x, hx, e⟩ => hn.2 (by rw [← of_decide_eq_true e]; exact hx)⟩
/-- The words that are no names. -/
def kwords : List ByteArray := [⟨#[115, 116, 97, 116, 105, 111, 110, 115]⟩, ⟨#[105, 110]⟩, ⟨#[97, 116]⟩, ⟨#[102, 108, 111, 119]⟩, ⟨#[100, 101, 102, 97, 117, 108, 116]⟩, ⟨#[111, 117, 116]⟩, ⟨#[105, 102]⟩, ⟨#[116, 104, 101, 110]⟩, ⟨#[101, 108, 115, 101]⟩, ⟨#[112, 114, 101]⟩, ⟨#[97, 110, 100]⟩, ⟨#[111, 114]⟩, ⟨#[110, 111, 116]⟩, ⟨#[116, 114, 117, 101]⟩, ⟨#[102, 97, 108, 115, 101]⟩, ⟨#[105, 110, 116]⟩, ⟨#[98, 111, 111, 108]⟩]
/-- The plain answer: may a text be a name? -/
def nameP (s : ByteArray) : Bool := decide (s.size ≠ 0) && decide (s.size ≤ 40) && decide (∀ k, k < s.size → goodB s k = true) && !(kwords.any fun x => decide (x = s))
def kwCells : Array Value := #[.string ⟨#[115, 116, 97, 116, 105, 111, 110, 115]⟩, .string ⟨#[105, 110]⟩, .string ⟨#[97, 116]⟩, .string ⟨#[102, 108, 111, 119]⟩, .string ⟨#[100, 101, 102, 97, 117, 108, 116]⟩, .string ⟨#[111, 117, 116]⟩, .string ⟨#[105, 102]⟩, .string ⟨#[116, 104, 101, 110]⟩, .string ⟨#[101, 108, 115, 101]⟩, .string ⟨#[112, 114, 101]⟩, .string ⟨#[97, 110, 100]⟩, .string ⟨#[111, 114]⟩, .string ⟨#[110, 111, 116]⟩, .string ⟨#[116, 114, 117, 101]⟩, .string ⟨#[102, 97, 108, 115, 101]⟩, .string ⟨#[105, 110, 116]⟩, .string ⟨#[98, 111, 111, 108]⟩]
theorem kw_rd (w : World) : RdStrV (w.alloc (.cells kwCells 9)) 0 false kwords (.slice (some ⟨w.heap.size, 0, none⟩) 17 17) := by
  refine ⟨some ⟨w.heap.size, 0, none⟩, 17, rfl, by simp [fitsR, kwords], by simp [kwords], by decide, fun i x hx => ?_, fun h => by simp at h⟩
  have hx' : kwords[i]? = some x := hx
  have hi : i < 17 := (List.getElem?_eq_some_iff.1 hx').1
  refine ⟨?_, _, _, rfl, Nat.zero_le _, by simp, ?_⟩
  · have : ∀ x, x ∈ kwords → x.size ≤ maxLen := by decide
    exact this x (List.mem_of_getElem? hx')
  · rw [Nat.zero_add, World.cell?_alloc_at _ _ _ _ rfl]
    show (kwords.map Value.string).toArray[i]? = _
    simp [hx']
theorem words_one (w : World) : Calls Try.prog 95 #[] w fun e w' => (∃ a, e = .returned (.slice a kwords.length 17) ∧ RdStrV w' 0 false kwords (.slice a kwords.length 17)) ∧ Ext w w' := by
  go_enter Try.func95, Try.ntmps95
  go_wp2_with fail
  go_ret
  exact ⟨⟨_, rfl, kw_rd w⟩, (Chg.refl _ _).alloc _⟩
theorem empty_iff {s : ByteArray} : (s.toList == (⟨#[]⟩ : ByteArray).toList) = true ↔ s.size = 0 := by
  rw [str_eq0]
  constructor
  · rintro rfl; rfl
  · intro h
    obtain ⟨⟨l⟩⟩ := s
    have : l.length = 0 := h
    have : l = [] := List.length_eq_zero_iff.1 this
    subst this; rfl
theorem nil_of_size {s : ByteArray} (h : s.size = 0) : s.toList = [] := by
  obtain ⟨⟨l⟩⟩ := s
  have : l.length = 0 := h
  have : l = [] := List.length_eq_zero_iff.1 this
  subst this; simp [ByteArray.toList_eq]
theorem size_of_nil {s : ByteArray} (h : s.toList = []) : s.size = 0 := by
  rw [ByteArray.toList_eq] at h
  have := congrArg List.length h
  simpa using this
theorem nameP_of {s : ByteArray} (h0 : s.size ≠ 0) (h40 : s.size ≤ 40) {n : Nat} (hW : Word s n) : nameP s = (decide (n = s.size) && !(kwords.any fun x => decide (x = s))) := by
  have e : decide (∀ k, k < s.size → goodB s k = true) = decide (n = s.size) := by
    rw [Bool.eq_iff_iff, decide_eq_true_eq, decide_eq_true_eq]
    exact hW.all.symm
  simp [nameP, h0, h40, ← e]
set_option maxHeartbeats 1000000 in
theorem name_one (s : ByteArray) (hs : s.size ≤ maxLen) (w : World) : Calls Try.prog 79 #[.string s] w fun e w' => e = .returned (.bool (nameP s)) ∧ Ext w w' := by
  go_enter Try.func79, Try.ntmps79
  by_cases h0 : s.size = 0
  · have q0 := nil_of_size h0
    go_wp2_with fail
    go_ret
    exact ⟨by simp [nameP, h0], Chg.refl _ _⟩
  · have q0 : ¬ s.toList = [] := fun h => h0 (size_of_nil h)
    by_cases h40 : s.size ≤ 40
    · have q1 : (s.size : Int) ≤ 40 := by omega
      go_wp2_with fail
      refine (ofWord_one s hs _).mono ?_
      rintro e w1 ⟨⟨n, rfl, hW⟩, hE⟩
      have hN := nameP_of h0 h40 hW
      clear hW
      have HN := Lib.hid hN
      clear hN
      by_cases hn : n = s.size
      · subst hn
        go_wp2_with fail
        refine (words_one _).mono ?_
        rintro e w2 ⟨⟨a, rfl, hr⟩, hE2⟩
        go_wp2_with fail
        refine (sContains_any _ _ _ s _ hr).mono ?_
        rintro e w3 ⟨rfl, hE3⟩
        generalize (kwords.any fun x => decide (x = s)) = b at *
        go_wp2_with fail
        go_ret
        exact ⟨by rw [HN.out]; simp [q0], (hE.trans hE2).trans hE3⟩
      · have hn' : ¬ (n : Int) = (s.size : Int) := by omega
        go_wp2_with fail
        go_ret
        exact ⟨by rw [HN.out]; simp [hn], hE⟩
    · have q1 : ¬ (s.size : Int) ≤ 40 := by omega
      go_wp2_with fail
      go_ret
      exact ⟨by simp [nameP, h40], Chg.refl _ _⟩
set_option maxHeartbeats 1000000 in
theorem refName_one (s : ByteArray) (hs : s.size ≤ maxLen) (w : World) : Calls Try.prog 87 #[.string s] w fun e w' => e = .returned (.bool (nameP s)) ∧ Ext w w' := by
  go_enter Try.func87, Try.ntmps87
  by_cases h0 : s.size = 0
  · have q0 := nil_of_size h0
    go_wp2_with fail
    go_ret
    exact ⟨by simp [nameP, h0], Chg.refl _ _⟩
  · have q0 : ¬ s.toList = [] := fun h => h0 (size_of_nil h)
    by_cases h40 : s.size ≤ 40
    · have q1 : ¬ (40 : Int) < (s.size : Int) := by omega
      go_wp2_with fail
      refine (refWord_one s hs _).mono ?_
      rintro e w1 ⟨⟨n, rfl, hW⟩, hE⟩
      have hN := nameP_of h0 h40 hW
      clear hW
      have HN := Lib.hid hN
      clear hN
      have q2 : s.toList.isEmpty = false := by cases h : s.toList with | nil => exact absurd h q0 | cons _ _ => rfl
      by_cases hn : n = s.size
      · subst hn
        go_wp2_with fail
        have hr := kw_rd w1
        have hE2 : Ext w (w1.alloc (.cells kwCells 9)) := hE.alloc _
        unfold kwCells at hr hE2
        generalize (w1.alloc (.cells _ 9)) = w2 at *
        generalize w1.heap.size = B at *
        go_loop [4] (fun i => ∃ k : Nat, k ≤ kwords.length ∧ i = .int .i64 k ∧ s ∉ kwords.take k) (fun i => kwords.length - (intOf i).toNat)
        case atStart => exact ⟨0, Nat.zero_le _, rfl, by simp⟩
        case round =>
          obtain ⟨k, hk, rfl, hk0⟩ := hrel
          by_cases hlt : k < kwords.length
          · have hx := List.getElem?_eq_getElem hlt
            obtain ⟨_, _, e, _, _, _, hrr, _⟩ := hr
            simp only [Value.slice.injEq] at e
            obtain ⟨rfl, _, rfl⟩ := e
            obtain ⟨_, b, o, e, _, hb, c0⟩ := hrr k _ hx
            simp only [Option.some.injEq, Addr.mk.injEq] at e
            obtain ⟨rfl, rfl, _⟩ := e
            rw [Nat.zero_add] at c0
            have q3 : (k : Int) < 17 := by have : kwords.length = 17 := rfl; omega
            have hmem : kwords[k] ∈ kwords := List.getElem_mem hlt
            have htake : kwords.take (k + 1) = kwords.take k ++ [kwords[k]] := by rw [List.take_add_one, hx]; rfl
            generalize kwords[k] = x at *
            have HM := Lib.hid hmem
            have HT := Lib.hid htake
            have HK := Lib.hid hk0
            clear hrr hx hmem htake hk0
            go_wp2_with fail
            · have hxs := str_eq0.1 ‹(x.toList == s.toList) = true›
              go_ret
              refine ⟨?_, hE2⟩
              rw [HN.out]
              have : (kwords.any fun x => decide (x = s)) = true := List.any_eq_true.2 ⟨x, HM.out, by simp [hxs]⟩
              rw [this]
              rfl
            · have hxs := str_ne0 ‹(x.toList == s.toList) = false›
              go_round
              case rel => exact ⟨k + 1, by omega, by go_num, by rw [HT.out]; simp [HK.out]; exact fun e => hxs e.symm⟩
              case measure => simp [intOf]; omega
          · obtain rfl : k = kwords.length := by omega
            rw [List.take_length] at hk0
            have HK := Lib.hid hk0
            clear hk0
            have q3 : ¬ ((kwords.length : Nat) : Int) < 17 := by decide
            go_wp2_with fail
            go_ret
            refine ⟨?_, hE2⟩
            rw [HN.out]
            have : (kwords.any fun x => decide (x = s)) = false := List.any_eq_false.2 (fun x hx => by simp; intro e; subst e; exact HK.out hx)
            rw [this]
            rfl
      · have hn' : ((n : Int) != (s.size : Int)) = true := by simp; omega
        go_wp2_with fail
        go_ret
        exact ⟨by rw [HN.out]; simp [hn], hE⟩
    · have q1 : (40 : Int) < (s.size : Int) := by omega
      go_wp2_with fail
      go_ret
      exact ⟨by simp [nameP, h40], Chg.refl _ _⟩
end Go.Proofs.Ytjdficgejjkaoaa
