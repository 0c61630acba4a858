/- The reference's group: what each call comes to. -/
import Derived.Test.YtpkeclkfgfkddaaWalkE
namespace Go.Proofs.Ytpkeclkfgfkddaa
open Go.RowKit
set_option linter.unusedVariables false

def rcells (n s : Nat) (A T K : Nat → Bool) (R : Int) (G : Bool) : Array Value :=
  #[.int .i64 n, .int .i64 ((s : Int) + 1), .bool (A 0), .bool (A 1), .bool (A 2), .bool (A 3), .bool (A 4), .bool (A 5), .bool (A 6), .bool (A 7), .bool (A 8),
    .bool (T 0), .bool (T 1), .bool (T 2), .bool (T 3), .bool (T 4), .bool (T 5), .bool (T 6), .bool (T 7), .bool (T 8),
    .bool (K 0), .bool (K 1), .bool (K 2), .bool (K 3), .bool (K 4), .bool (K 5), .bool (K 6), .bool (K 7), .bool (K 8), .int .i64 R, .bool G]
structure Rg (w : World) (b : Nat) (n s : Nat) (A T K : Nat → Bool) (R : Int) (G : Bool) : Prop where
  blk : w.heap[b]? = some (.cells (rcells n s A T K R G) 53 (0, 0))
  n1 : 1 ≤ n
  n8 : n ≤ 8
  s1 : s < n
theorem nine {k : Nat} (h : k < 9) : k = 0 ∨ k = 1 ∨ k = 2 ∨ k = 3 ∨ k = 4 ∨ k = 5 ∨ k = 6 ∨ k = 7 ∨ k = 8 := by omega
section
variable {w w1 : World} {b n s : Nat} {A T K : Nat → Bool} {R : Int} {G : Bool} {S : Nat → Prop}
theorem Rg.chg (h : Rg w b n s A T K R G) (hc : Chg S w w1) (hb : ¬ S b) : Rg w1 b n s A T K R G := ⟨hc.heap h.blk hb, h.n1, h.n8, h.s1⟩
theorem Rg.heap (h : Rg w b n s A T K R G) (hc : w1.heap = w.heap) : Rg w1 b n s A T K R G := ⟨by rw [hc]; exact h.blk, h.n1, h.n8, h.s1⟩
theorem Rg.c0 (h : Rg w b n s A T K R G) : w.cell? ⟨b, 0, none⟩ = some (.int .i64 n) := by rw [blk_cell h.blk]; rfl
theorem Rg.c1 (h : Rg w b n s A T K R G) : w.cell? ⟨b, 1, none⟩ = some (.int .i64 ((s : Int) + 1)) := by rw [blk_cell h.blk]; rfl
theorem Rg.cA (h : Rg w b n s A T K R G) (k : Nat) (hk : k < 9) : w.cell? ⟨b, 2 + k, none⟩ = some (.bool (A k)) := by
  rw [blk_cell h.blk]; rcases nine hk with rfl | rfl | rfl | rfl | rfl | rfl | rfl | rfl | rfl <;> rfl
theorem Rg.cT (h : Rg w b n s A T K R G) (k : Nat) (hk : k < 9) : w.cell? ⟨b, 11 + k, none⟩ = some (.bool (T k)) := by
  rw [blk_cell h.blk]; rcases nine hk with rfl | rfl | rfl | rfl | rfl | rfl | rfl | rfl | rfl <;> rfl
theorem Rg.cK (h : Rg w b n s A T K R G) (k : Nat) (hk : k < 9) : w.cell? ⟨b, 20 + k, none⟩ = some (.bool (K k)) := by
  rw [blk_cell h.blk]; rcases nine hk with rfl | rfl | rfl | rfl | rfl | rfl | rfl | rfl | rfl <;> rfl
theorem Rg.cR (h : Rg w b n s A T K R G) : w.cell? ⟨b, 29, none⟩ = some (.int .i64 R) := by rw [blk_cell h.blk]; rfl
theorem Rg.cG (h : Rg w b n s A T K R G) : w.cell? ⟨b, 30, none⟩ = some (.bool G) := by rw [blk_cell h.blk]; rfl
theorem Rg.free (h : Rg w b n s A T K R G) (j : Nat) : w.frozen? ⟨b, j, none⟩ = false := blk_free h.blk j
theorem Rg.sA (h : Rg w b n s A T K R G) (k : Nat) (hk : k < 9) (x : Bool) : Rg (w.setCell ⟨b, 2 + k, none⟩ (.bool x)) b n s (upd A k x) T K R G := by
  refine ⟨?_, h.n1, h.n8, h.s1⟩
  rw [blk_set h.blk]; rcases nine hk with rfl | rfl | rfl | rfl | rfl | rfl | rfl | rfl | rfl <;> rfl
theorem Rg.sT (h : Rg w b n s A T K R G) (k : Nat) (hk : k < 9) (x : Bool) : Rg (w.setCell ⟨b, 11 + k, none⟩ (.bool x)) b n s A (upd T k x) K R G := by
  refine ⟨?_, h.n1, h.n8, h.s1⟩
  rw [blk_set h.blk]; rcases nine hk with rfl | rfl | rfl | rfl | rfl | rfl | rfl | rfl | rfl <;> rfl
theorem Rg.sK (h : Rg w b n s A T K R G) (k : Nat) (hk : k < 9) (x : Bool) : Rg (w.setCell ⟨b, 20 + k, none⟩ (.bool x)) b n s A T (upd K k x) R G := by
  refine ⟨?_, h.n1, h.n8, h.s1⟩
  rw [blk_set h.blk]; rcases nine hk with rfl | rfl | rfl | rfl | rfl | rfl | rfl | rfl | rfl <;> rfl
theorem Rg.sR (h : Rg w b n s A T K R G) (x : Int) : Rg (w.setCell ⟨b, 29, none⟩ (.int .i64 x)) b n s A T K x G := ⟨by rw [blk_set h.blk]; rfl, h.n1, h.n8, h.s1⟩
theorem Rg.sG (h : Rg w b n s A T K R G) (x : Bool) : Rg (w.setCell ⟨b, 30, none⟩ (.bool x)) b n s A T K R x := ⟨by rw [blk_set h.blk]; rfl, h.n1, h.n8, h.s1⟩
theorem Rg.ext {A' T' K' : Nat → Bool} (h : Rg w b n s A T K R G) (hA : ∀ j, j < 9 → A j = A' j) (hT : ∀ j, j < 9 → T j = T' j) (hK : ∀ j, j < 9 → K j = K' j) : Rg w b n s A' T' K' R G := by
  refine ⟨?_, h.n1, h.n8, h.s1⟩
  rw [h.blk]
  unfold rcells
  simp only [hA 0 (by omega), hA 1 (by omega), hA 2 (by omega), hA 3 (by omega), hA 4 (by omega), hA 5 (by omega), hA 6 (by omega), hA 7 (by omega), hA 8 (by omega),
    hT 0 (by omega), hT 1 (by omega), hT 2 (by omega), hT 3 (by omega), hT 4 (by omega), hT 5 (by omega), hT 6 (by omega), hT 7 (by omega), hT 8 (by omega),
    hK 0 (by omega), hK 1 (by omega), hK 2 (by omega), hK 3 (by omega), hK 4 (by omega), hK 5 (by omega), hK 6 (by omega), hK 7 (by omega), hK 8 (by omega)]
end

/-- The members as a number, from the last one on. -/
def hornN (A : Nat → Bool) (n : Nat) : Nat → Int
  | 0 => 0
  | d + 1 => 2 * hornN A n d + b2i (A (n - d)) 1
theorem hornN_range (A : Nat → Bool) (n : Nat) : ∀ d : Nat, 0 ≤ hornN A n d ∧ hornN A n d + 1 ≤ 2 ^ d
  | 0 => by simp [hornN]
  | d + 1 => by
    have := hornN_range A n d
    have h1 := b2i_le (A (n - d)) 1 (by omega)
    have h2 : (2 : Int) ^ (d + 1) = 2 * 2 ^ d := by rw [Int.pow_succ]; omega
    simp only [hornN]
    omega
theorem b2i_mul (x : Bool) (m : Int) : b2i x m = m * b2i x 1 := by unfold b2i; split <;> simp
def memB (A : Nat → Bool) (n : Nat) : Nat → Bool := fun j => decide (j < n) && A (j + 1)
theorem hornN_all (A : Nat → Bool) (n : Nat) (h1 : 1 ≤ n) (h8 : n ≤ 8) : hornN A n n = S8 (memB A n) := by
  have hc : n = 1 ∨ n = 2 ∨ n = 3 ∨ n = 4 ∨ n = 5 ∨ n = 6 ∨ n = 7 ∨ n = 8 := by omega
  rcases hc with rfl | rfl | rfl | rfl | rfl | rfl | rfl | rfl <;>
  · simp only [hornN, S8, memB]
    simp only [b2i_mul _ 2, b2i_mul _ 4, b2i_mul _ 8, b2i_mul _ 16, b2i_mul _ 32, b2i_mul _ 64, b2i_mul _ 128]
    simp
    try simp [b2i]
    try omega
theorem pow_le_128 {d : Nat} (h : d ≤ 7) : (2 : Int) ^ d ≤ 128 := by
  have : d = 0 ∨ d = 1 ∨ d = 2 ∨ d = 3 ∨ d = 4 ∨ d = 5 ∨ d = 6 ∨ d = 7 := by omega
  rcases this with rfl | rfl | rfl | rfl | rfl | rfl | rfl | rfl <;> decide

def memR (A : Nat → Bool) (n : Nat) (G : Bool) : Int := if G then 0 else S8 (memB A n)
theorem rmembers_any (b n s : Nat) (A T K : Nat → Bool) (R : Int) (G : Bool) (w : World) (h : Rg w b n s A T K R G) :
    Calls Try.prog 12 #[.pointer (some ⟨b, 0, none⟩)] w fun e w' => e = .returned (.int .u8 (memR A n G)) ∧ w = w' := by
  have h0 := h.c0
  have hg := h.cG
  have n1 := h.n1
  have n8 := h.n8
  have hfin := hornN_all A n n1 n8
  have HF := Lib.hid hfin
  clear hfin
  cases G
  · go_enter Try.func12, Try.ntmps12
    go_wp2
    go_loop [3, 4] (fun x i => ∃ d : Nat, d ≤ n ∧ i = .int .i64 ((n : Int) - d) ∧ x = .int .u8 (hornN A n d)) (fun _ i => (intOf i).toNat)
    case atStart => exact ⟨0, by omega, by go_num, rfl⟩
    case round =>
      obtain ⟨d, hd, rfl, rfl⟩ := hrel
      have hr := hornN_range A n d
      by_cases hlt : d < n
      · have hcA := h.cA (n - d) (by omega)
        have hp := pow_le_128 (d := d) (by omega)
        have hb : 0 ≤ hornN A n d ∧ hornN A n d ≤ 127 := by omega
        have e1 : ((n : Int) - d).toNat = n - d := by omega
        have HN : Hid (hornN A n (d + 1) = 2 * hornN A n d + b2i (A (n - d)) 1) := rfl
        clear hr hp
        cases hA : A (n - d)
        · rw [hA] at hcA
          have HN2 : Hid (hornN A n (d + 1) = hornN A n d * 2) := by unfold Hid; rw [HN.out, hA]; simp [b2i]; omega
          clear hA
          go_wp2
          go_round
          case rel => exact ⟨d + 1, by omega, by go_num, by rw [HN2.out]⟩
          case measure => simp [intOf]; omega
        · rw [hA] at hcA
          have HN2 : Hid (hornN A n (d + 1) = hornN A n d * 2 + 1) := by unfold Hid; rw [HN.out, hA]; simp [b2i]; omega
          clear hA
          go_wp2
          go_round
          case rel => exact ⟨d + 1, by omega, by go_num, by rw [HN2.out]⟩
          case measure => simp [intOf]; omega
      · obtain rfl : d = n := by omega
        have e0 : ((d : Int) - d) < 1 := by omega
        go_wp2
        go_ret
        exact ⟨by rw [HF.out]; rfl, rfl⟩
  · go_enter Try.func12, Try.ntmps12
    go_wp2
    refine wp_loop_rounds 1 ?_
    rw [rounds_succ]
    go_wp2
    go_ret
    exact ⟨rfl, rfl⟩

/-! Heard -/
theorem rheard_gone (b n s : Nat) (A T K : Nat → Bool) (R : Int) (st : Int) (came : Bool) (mem : Int) (w : World) (h : Rg w b n s A T K R true) :
    Calls Try.prog 14 #[.pointer (some ⟨b, 0, none⟩), .int .i64 st, .bool came, .int .u8 mem] w fun e w' => e = .returned (.int .i64 11) ∧ w = w' := by
  have hg := h.cG
  go_enter Try.func14, Try.ntmps14
  go_wp2
  go_ret
  exact ⟨rfl, rfl⟩
theorem rheard_arg (b n s : Nat) (A T K : Nat → Bool) (R : Int) (st : Int) (came : Bool) (mem : Int) (w : World) (h : Rg w b n s A T K R false) (ha : st < 1 ∨ (n : Int) < st ∨ st = (s : Int) + 1) :
    Calls Try.prog 14 #[.pointer (some ⟨b, 0, none⟩), .int .i64 st, .bool came, .int .u8 mem] w fun e w' => e = .returned (.int .i64 1) ∧ w = w' := by
  have hg := h.cG
  have h0 := h.c0
  have h1 := h.c1
  have n1 := h.n1
  have n8 := h.n8
  have s1 := h.s1
  have hcase : st < 1 ∨ (1 ≤ st ∧ (n : Int) < st) ∨ st = (s : Int) + 1 := by omega
  clear ha
  rcases hcase with ha | ⟨ha, hb⟩ | rfl
  all_goals go_enter Try.func14, Try.ntmps14
  all_goals go_wp2
  all_goals go_ret
  all_goals exact ⟨rfl, rfl⟩
theorem rheard_told (b n s : Nat) (A T K : Nat → Bool) (R : Int) (k : Nat) (came : Bool) (mem : Int) (w : World) (h : Rg w b n s A T K R false) (hk : k < n) (hks : k ≠ s) (hT : T (k + 1) = true) :
    Calls Try.prog 14 #[.pointer (some ⟨b, 0, none⟩), .int .i64 (k + 1), .bool came, .int .u8 mem] w fun e w' => e = .returned (.int .i64 11) ∧ w = w' := by
  have hg := h.cG
  have h0 := h.c0
  have h1 := h.c1
  have n1 := h.n1
  have n8 := h.n8
  have s1 := h.s1
  have hc := h.cT (k + 1) (by omega)
  rw [hT] at hc
  clear hT
  have hks' : ((k : Int) + 1 == (s : Int) + 1) = false := by simp; omega
  go_enter Try.func14, Try.ntmps14
  go_wp2
  go_ret
  exact ⟨rfl, rfl⟩
def rhK (n : Nat) (A K : Nat → Bool) (k : Nat) (came : Bool) (mem : Int) : Nat → Bool := if A (k + 1) = true ∧ came = true ∧ mem = memR A n false then upd K (k + 1) true else K
def rhR (n : Nat) (A : Nat → Bool) (R : Int) (k : Nat) (came : Bool) (mem : Int) : Int := if A (k + 1) = true ∧ came = true ∧ mem ≠ memR A n false then R + 1 else R
set_option maxHeartbeats 800000 in
theorem rheard_ok (b n s : Nat) (A T K : Nat → Bool) (R : Int) (k : Nat) (came : Bool) (mem : Int) (w : World) (h : Rg w b n s A T K R false) (hk : k < n) (hks : k ≠ s) (hT : T (k + 1) = false) (hR : 0 ≤ R ∧ R ≤ 100) :
    Calls Try.prog 14 #[.pointer (some ⟨b, 0, none⟩), .int .i64 (k + 1), .bool came, .int .u8 mem] w fun e w' => e = .returned (.int .i64 0) ∧
      Rg w' b n s A (upd T (k + 1) true) (rhK n A K k came mem) (rhR n A R k came mem) false ∧ Chg (· = b) w w' := by
  have hg := h.cG
  have h0 := h.c0
  have h1 := h.c1
  have n1 := h.n1
  have n8 := h.n8
  have s1 := h.s1
  have hc := h.cT (k + 1) (by omega)
  have hd := h.cA (k + 1) (by omega)
  have hf := h.free (11 + (k + 1))
  have q1 := h.sT (k + 1) (by omega) true
  rw [hT] at hc
  clear hT
  have hks' : ((k : Int) + 1 == (s : Int) + 1) = false := by simp; omega
  have qg := q1.cG
  have qA := q1.cA (k + 1) (by omega)
  have qK := q1.cK (k + 1) (by omega)
  have qR := q1.cR
  have fK := q1.free (20 + (k + 1))
  have fR := q1.free 29
  have hcase : A (k + 1) = false ∨ (A (k + 1) = true ∧ came = false) ∨ (A (k + 1) = true ∧ came = true ∧ (mem == memR A n false) = true) ∨ (A (k + 1) = true ∧ came = true ∧ (mem == memR A n false) = false) := by
    cases A (k + 1) <;> cases came <;> by_cases hm : mem = memR A n false <;> simp [hm]
  rcases hcase with hA | ⟨hA, rfl⟩ | ⟨hA, rfl, hm⟩ | ⟨hA, rfl, hm⟩
  · rw [hA] at hd qA
    have HA := Lib.hid hA
    clear hA
    go_enter Try.func14, Try.ntmps14
    go_wp2
    go_ret
    refine ⟨rfl, ?_, (Chg.refl _ _).setCell _ _ (.inl (Eq.refl b))⟩
    unfold rhK rhR
    rw [if_neg (by rw [HA.out]; simp), if_neg (by rw [HA.out]; simp)]
    exact q1
  · rw [hA] at hd qA
    have HA := Lib.hid hA
    clear hA
    go_enter Try.func14, Try.ntmps14
    go_wp2
    go_ret
    refine ⟨rfl, ?_, (Chg.refl _ _).setCell _ _ (.inl (Eq.refl b))⟩
    unfold rhK rhR
    rw [if_neg (by simp), if_neg (by simp)]
    exact q1
  · rw [hA] at hd qA
    have HA := Lib.hid hA
    clear hA
    go_enter Try.func14, Try.ntmps14
    go_wp2_with (go_at_call 12; refine (rmembers_any b n s _ _ _ _ _ _ q1).mono ?_; rintro e w' ⟨rfl, rfl⟩)
    go_ret
    refine ⟨rfl, ?_, ((Chg.refl _ _).setCell _ _ (.inl (Eq.refl b))).setCell _ _ (.inl (Eq.refl b))⟩
    unfold rhK rhR
    rw [if_pos ⟨HA.out, rfl, by simpa using hm⟩, if_neg (by rintro ⟨_, _, h3⟩; exact h3 (by simpa using hm))]
    exact q1.sK (k + 1) (by omega) true
  · rw [hA] at hd qA
    have HA := Lib.hid hA
    clear hA
    go_enter Try.func14, Try.ntmps14
    go_wp2_with (go_at_call 12; refine (rmembers_any b n s _ _ _ _ _ _ q1).mono ?_; rintro e w' ⟨rfl, rfl⟩)
    go_ret
    refine ⟨rfl, ?_, ((Chg.refl _ _).setCell _ _ (.inl (Eq.refl b))).setCell _ _ (.inl (Eq.refl b))⟩
    unfold rhK rhR
    rw [if_neg (by rintro ⟨_, _, h3⟩; rw [h3] at hm; simp at hm), if_pos ⟨HA.out, rfl, by simpa using hm⟩]
    exact q1.sR _

/-! New -/
theorem rnew_bad (n s : Int) (w : World) (h : n < 1 ∨ 8 < n ∨ s < 1 ∨ n < s) :
    Calls Try.prog 9 #[.int .i64 n, .int .i64 s] w fun e w' => e = .returned (.tuple #[.pointer none, .int .i64 1]) ∧ w = w' := by
  have hc : (n < 1) ∨ (1 ≤ n ∧ 8 < n) ∨ (1 ≤ n ∧ n ≤ 8 ∧ s < 1) ∨ (1 ≤ n ∧ n ≤ 8 ∧ 1 ≤ s ∧ n < s) := by omega
  clear h
  rcases hc with h | ⟨h, h'⟩ | ⟨h, h', h2⟩ | ⟨h, h', h2, h3⟩
  all_goals go_enter Try.func9, Try.ntmps9
  all_goals go_wp2
  all_goals go_ret2
  all_goals exact ⟨rfl, rfl⟩
def upTo (n : Nat) : Nat → Bool := fun j => decide (1 ≤ j ∧ j < n + 1)
theorem rnew_ok (n s : Nat) (w : World) (h1 : 1 ≤ n) (h8 : n ≤ 8) (hs : s < n) :
    Calls Try.prog 9 #[.int .i64 n, .int .i64 (s + 1)] w fun e w' => e = .returned (.tuple #[.pointer (some ⟨w.heap.size, 0, none⟩), .int .i64 0]) ∧
      Rg w' w.heap.size n s (upTo n) (fun _ => false) (fun _ => false) 0 false ∧ Chg (fun _ => False) w w' := by
  go_enter Try.func9, Try.ntmps9
  go_wp2
  go_loopw [7] (fun i wr => ∃ k : Nat, 1 ≤ k ∧ k ≤ n + 1 ∧ i = .int .i64 k ∧ Rg wr w.heap.size n s (fun j => decide (1 ≤ j ∧ j < k)) (fun _ => false) (fun _ => false) 0 false ∧ Chg (fun _ => False) w wr)
    (fun i _ => n + 1 - (intOf i).toNat)
  case atStart =>
    refine ⟨1, by omega, by omega, rfl, ⟨?_, h1, h8, hs⟩, (Chg.refl _ _).alloc _⟩
    rw [heap_alloc_new]
    rfl
  case round =>
    obtain ⟨k, hk1, hk2, rfl, hR, hC⟩ := hrel
    by_cases hlt : k ≤ n
    · have hA := hR.cA k (by omega)
      have hf := hR.free (2 + k)
      have hA2 : (wr.cell? ⟨w.heap.size, 2 + k, none⟩).isSome := by rw [hA]; rfl
      have hq := hR.sA k (by omega) true
      go_wp2
      go_roundw
      case rel =>
        refine ⟨k + 1, by omega, by omega, by go_num, ?_, hC.setCell _ _ (.inr (Nat.le_refl _))⟩
        refine hq.ext (fun j _ => ?_) (fun _ _ => rfl) (fun _ _ => rfl)
        unfold upd
        by_cases e : j = k
        · subst e; simp [hk1]
        · have : decide (1 ≤ j ∧ j < k + 1) = decide (1 ≤ j ∧ j < k) := decide_eq_decide.2 (by omega)
          simp [e, this]
      case measure => simp [intOf]; omega
    · obtain rfl : k = n + 1 := by omega
      go_wp2
      go_ret2
      exact ⟨rfl, hR, hC⟩

end Go.Proofs.Ytpkeclkfgfkddaa
