/- The reference's group: End. -/
import Derived.Test.YtpkeclkfgfkddaaWalkR
namespace Go.Proofs.Ytpkeclkfgfkddaa
open Go.RowKit
set_option linter.unusedVariables false

/-! End -/
theorem rend_gone (b n s : Nat) (A T K : Nat → Bool) (R : Int) (w : World) (h : Rg w b n s A T K R true) :
    Calls Try.prog 11 #[.pointer (some ⟨b, 0, none⟩)] w fun e w' => e = .returned (.tuple #[.int .u8 0, .bool false, .int .i64 11]) ∧ w = w' := by
  have hg := h.cG
  go_enter Try.func11, Try.ntmps11
  go_wp2
  go_ret3
  exact ⟨rfl, rfl⟩
/-- How many of the places 1 to k - 1 are on. -/
def cntB (K : Nat → Bool) : Nat → Int
  | 0 => 0
  | k + 1 => cntB K k + (if 1 ≤ k ∧ K k = true then 1 else 0)
theorem cntB_range (K : Nat → Bool) : ∀ k : Nat, 0 ≤ cntB K k ∧ cntB K k ≤ k
  | 0 => by simp [cntB]
  | k + 1 => by have := cntB_range K k; unfold cntB; split <;> omega
def cut (X : Nat → Bool) (k : Nat) : Nat → Bool := fun j => if 1 ≤ j ∧ j < k then false else X j
def cutA (s : Nat) (A K : Nat → Bool) (k : Nat) : Nat → Bool := fun j => if 1 ≤ j ∧ j < k then (j == s + 1 || K j) else A j
theorem cut_one (X : Nat → Bool) (j : Nat) : cut X 1 j = X j := by unfold cut; rw [if_neg (by omega)]
theorem cutA_one (s : Nat) (A K : Nat → Bool) (j : Nat) : cutA s A K 1 j = A j := by unfold cutA; rw [if_neg (by omega)]
theorem cut_at (X : Nat → Bool) (k : Nat) : cut X k k = X k := by unfold cut; rw [if_neg (by omega)]
theorem cut_step (X : Nat → Bool) (k : Nat) (hk : 1 ≤ k) (j : Nat) : upd (cut X k) k false j = cut X (k + 1) j := by
  unfold upd cut
  by_cases e : j = k
  · subst e; rw [if_pos rfl, if_pos (by omega)]
  · rw [if_neg e]
    by_cases h : 1 ≤ j ∧ j < k
    · rw [if_pos h, if_pos (by omega)]
    · rw [if_neg h, if_neg (by omega)]
theorem cutA_step (s : Nat) (A K : Nat → Bool) (k : Nat) (hk : 1 ≤ k) (x : Bool) (hx : x = (k == s + 1 || K k)) (j : Nat) : upd (cutA s A K k) k x j = cutA s A K (k + 1) j := by
  unfold upd cutA
  by_cases e : j = k
  · subst e; rw [if_pos rfl, if_pos (by omega), hx]
  · rw [if_neg e]
    by_cases h : 1 ≤ j ∧ j < k
    · rw [if_pos h, if_pos (by omega)]
    · rw [if_neg h, if_neg (by omega)]
set_option maxHeartbeats 2000000 in
theorem rend_ok (b n s : Nat) (A T K : Nat → Bool) (R : Int) (w : World) (h : Rg w b n s A T K R false) (hR : 0 ≤ R ∧ R ≤ 100) :
    Calls Try.prog 11 #[.pointer (some ⟨b, 0, none⟩)] w fun e w' =>
      e = .returned (.tuple #[.int .u8 (memR (cutA s A K (n + 1)) n (decide (1 + cntB K (n + 1) ≤ R))), .bool (!decide (1 + cntB K (n + 1) ≤ R)), .int .i64 0]) ∧
      Rg w' b n s (cutA s A K (n + 1)) (cut T (n + 1)) (cut K (n + 1)) 0 (decide (1 + cntB K (n + 1) ≤ R)) ∧ Chg (· = b) w w' := by
  have hg := h.cG
  have n1 := h.n1
  have n8 := h.n8
  have s1 := h.s1
  go_enter Try.func11, Try.ntmps11
  go_wp2
  go_loopw [5, 6] (fun t i wr => ∃ k : Nat, 1 ≤ k ∧ k ≤ n + 1 ∧ i = .int .i64 k ∧ t = .int .i64 (1 + cntB K k) ∧ Rg wr b n s (cutA s A K k) (cut T k) (cut K k) R false ∧ Chg (· = b) w wr)
    (fun _ i _ => n + 1 - (intOf i).toNat)
  case atStart => exact ⟨1, by omega, by omega, rfl, rfl, h.ext (fun j _ => (cutA_one s A K j).symm) (fun j _ => (cut_one T j).symm) (fun j _ => (cut_one K j).symm), Chg.refl _ _⟩
  case round =>
    obtain ⟨k, hk1, hk2, rfl, rfl, hr, hC⟩ := hrel
    have h0 := hr.c0
    have h1 := hr.c1
    have hcr := cntB_range K k
    by_cases hlt : k ≤ n
    · have cK := hr.cK k (by omega)
      rw [cut_at] at cK
      have cA := hr.cA k (by omega)
      have cT := hr.cT k (by omega)
      have fA := hr.free (2 + k)
      have q1 := hr.sA k (by omega) (k == s + 1 || K k)
      have q2 := q1.sT k (by omega) false
      have q3 := q2.sK k (by omega) false
      have q4 := q3.ext (fun j _ => cutA_step s A K k hk1 _ rfl j) (fun j _ => cut_step T k hk1 j) (fun j _ => cut_step K k hk1 j)
      have fT := q1.free (11 + k)
      have fK := q2.free (20 + k)
      have cT1 := q1.cT k (by omega)
      have cK2 := q2.cK k (by omega)
      have hC4 : Chg (· = b) w (((wr.setCell ⟨b, 2 + k, none⟩ (.bool (k == s + 1 || K k))).setCell ⟨b, 11 + k, none⟩ (.bool false)).setCell ⟨b, 20 + k, none⟩ (.bool false)) :=
        ((hC.setCell _ _ (.inl (Eq.refl b))).setCell _ _ (.inl (Eq.refl b))).setCell _ _ (.inl (Eq.refl b))
      clear q3
      have HC : Hid (cntB K (k + 1) = cntB K k + (if 1 ≤ k ∧ K k = true then 1 else 0)) := rfl
      have he : ((k : Int) == (s : Int) + 1) = (k == s + 1) := by rw [Bool.eq_iff_iff]; simp; omega
      have hx : (k == s + 1 || K k) = true ∨ (k == s + 1 || K k) = false := by cases (k == s + 1 || K k) <;> simp
      have hcase : (((k : Int) == (s : Int) + 1) = true ∧ K k = false ∧ (k == s + 1 || K k) = true) ∨ (((k : Int) == (s : Int) + 1) = true ∧ K k = true ∧ (k == s + 1 || K k) = true) ∨
          (((k : Int) == (s : Int) + 1) = false ∧ K k = false ∧ (k == s + 1 || K k) = false) ∨ (((k : Int) == (s : Int) + 1) = false ∧ K k = true ∧ (k == s + 1 || K k) = true) := by
        rw [he]; cases K k <;> cases (k == s + 1) <;> simp
      clear hx he
      rcases hcase with ⟨e1, hK, hx⟩ | ⟨e1, hK, hx⟩ | ⟨e1, hK, hx⟩ | ⟨e1, hK, hx⟩
      · rw [hx] at q1 q2 q4 fT fK cT1 cK2 hC4
        rw [hK] at cK
        have HK := Lib.hid hK
        clear hK hx
        go_wp2
        go_region
        go_wp2
        go_roundw
        case rel => exact ⟨k + 1, by omega, by omega, by go_num, by rw [HC.out, if_neg (by rw [HK.out]; simp)]; go_num, q4.heap rfl, hC4.drew⟩
        case measure => simp [intOf]; omega
      · rw [hx] at q1 q2 q4 fT fK cT1 cK2 hC4
        rw [hK] at cK
        have HK := Lib.hid hK
        clear hK hx
        go_wp2
        go_region
        go_wp2
        go_roundw
        case rel => exact ⟨k + 1, by omega, by omega, by go_num, by rw [HC.out, if_pos ⟨hk1, HK.out⟩]; go_num, q4.heap rfl, hC4.drew⟩
        case measure => simp [intOf]; omega
      · rw [hx] at q1 q2 q4 fT fK cT1 cK2 hC4
        rw [hK] at cK
        have HK := Lib.hid hK
        clear hK hx
        go_wp2
        go_region
        go_wp2
        go_roundw
        case rel => exact ⟨k + 1, by omega, by omega, by go_num, by rw [HC.out, if_neg (by rw [HK.out]; simp)]; go_num, q4.heap rfl, hC4.drew⟩
        case measure => simp [intOf]; omega
      · rw [hx] at q1 q2 q4 fT fK cT1 cK2 hC4
        rw [hK] at cK
        have HK := Lib.hid hK
        clear hK hx
        go_wp2
        go_region
        go_wp2
        go_roundw
        case rel => exact ⟨k + 1, by omega, by omega, by go_num, by rw [HC.out, if_pos ⟨hk1, HK.out⟩]; go_num, q4.heap rfl, hC4.drew⟩
        case measure => simp [intOf]; omega
    · obtain rfl : k = n + 1 := by omega
      have hrR := hr.cR
      have fG := hr.free 30
      have cG := hr.cG
      have q1 := hr.sG (decide (1 + cntB K (n + 1) ≤ R))
      have q2 := q1.sR 0
      have fR := q1.free 29
      have cR1 := q1.cR
      have hC2 : Chg (· = b) w ((wr.setCell ⟨b, 30, none⟩ (.bool (decide (1 + cntB K (n + 1) ≤ R)))).setCell ⟨b, 29, none⟩ (.int .i64 0)) :=
        (hC.setCell _ _ (.inl (Eq.refl b))).setCell _ _ (.inl (Eq.refl b))
      have cG2 := q2.cG
      go_wp2
      generalize (wr.setCell ⟨b, 30, none⟩ (.bool (decide (1 + cntB K (n + 1) ≤ R)))).setCell ⟨b, 29, none⟩ (.int .i64 0) = W2 at *
      have hq : ∀ m : Nat, Calls Try.prog 12 #[.pointer (some ⟨b, 0, none⟩)] (W2.drewN m) fun e w' => e = .returned (.int .u8 (memR (cutA s A K (n + 1)) n (decide (1 + cntB K (n + 1) ≤ R)))) ∧ w' = W2.drewN m :=
        fun m => (rmembers_any b n s _ _ _ _ _ _ (q2.heap (w1 := W2.drewN m) rfl)).mono fun _ _ h => ⟨h.1, h.2.symm⟩
      go_quiet ((go_at_call 12; exact Calls.quiet_of_same (hq _)))
      go_wp2
      go_ret3
      exact ⟨rfl, q2.heap rfl, hC2.drewN _⟩
end Go.Proofs.Ytpkeclkfgfkddaa
