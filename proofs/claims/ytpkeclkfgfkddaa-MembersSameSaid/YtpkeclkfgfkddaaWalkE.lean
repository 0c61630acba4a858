/- The code's group: New, Members, End. -/
import Derived.Test.YtpkeclkfgfkddaaWalkI
namespace Go.Proofs.Ytpkeclkfgfkddaa
open Go.RowKit
set_option linter.unusedVariables false

theorem members_any (b n s : Nat) (f : Nat → Bool) (r : Nat → Int) (w : World) (h : Gr w b n s f r) :
    Calls Try.prog 15 #[.pointer (some ⟨b, 0, none⟩)] w fun e w' => e = .returned (.int .u8 (S8 f)) ∧ w = w' := by
  have h0 := h.c0
  have h2 := h.c2
  have n1 := h.n1
  go_enter Try.func15, Try.ntmps15
  go_wp2_with (go_at_call 16; refine (there_any b n _ n1 h0).mono ?_; rintro e w' ⟨rfl, rfl⟩)
  go_ret
  exact ⟨rfl, rfl⟩
theorem members_nil (w : World) :
    Calls Try.prog 15 #[.pointer none] w fun e w' => e = .returned (.int .u8 0) ∧ w = w' := by
  go_enter Try.func15, Try.ntmps15
  go_wp2_with (go_at_call 16; refine (there_nil _).mono ?_; rintro e w' ⟨rfl, rfl⟩)
  go_ret
  exact ⟨rfl, rfl⟩
theorem heard_nil (st : Int) (came : Bool) (mem : Int) (w : World) :
    Calls Try.prog 13 #[.pointer none, .int .i64 st, .bool came, .int .u8 mem] w fun e w' => e = .returned (.int .i64 2) ∧ w = w' := by
  go_enter Try.func13, Try.ntmps13
  go_wp2_with (go_at_call 16; refine (there_nil _).mono ?_; rintro e w' ⟨rfl, rfl⟩)
  go_ret
  exact ⟨rfl, rfl⟩
theorem new_bad (n s : Int) (w : World) (h : n < 1 ∨ 8 < n ∨ s < 1 ∨ n < s) :
    Calls Try.prog 8 #[.int .i64 n, .int .i64 s] w fun e w' => e = .returned (.tuple #[.pointer none, .int .i64 1]) ∧ w = w' := by
  have hc : (n < 1) ∨ (1 ≤ n ∧ 8 < n) ∨ (1 ≤ n ∧ n ≤ 8 ∧ s < 1) ∨ (1 ≤ n ∧ n ≤ 8 ∧ 1 ≤ s ∧ n < s) := by omega
  clear h
  rcases hc with h | ⟨h, h'⟩ | ⟨h, h', h2⟩ | ⟨h, h', h2, h3⟩
  all_goals go_enter Try.func8, Try.ntmps8
  all_goals go_wp2
  all_goals go_ret2
  all_goals exact ⟨rfl, rfl⟩
theorem new_ok (n s : Nat) (w : World) (h1 : 1 ≤ n) (h8 : n ≤ 8) (hs : s < n) :
    Calls Try.prog 8 #[.int .i64 n, .int .i64 (s + 1)] w fun e w' => e = .returned (.tuple #[.pointer (some ⟨w.heap.size, 0, none⟩), .int .i64 0]) ∧
      Gr w' w.heap.size n s (fun j => decide (j < n)) (fun _ => 0) ∧ Chg (fun _ => False) w w' := by
  have e := S8_full n h1 h8
  have E := Lib.hid e
  clear e
  go_enter Try.func8, Try.ntmps8
  go_wp2
  go_ret2
  refine ⟨rfl, ⟨?_, h1, h8, hs, fun _ => by omega⟩, (Chg.refl _ _).alloc _⟩
  rw [heap_alloc_new]
  unfold gcells
  have e2 : ((2 : Int) ^ n - 1) % 256 = IntKind.u8.wrap (2 ^ n % 256 - 1) := by
    show _ = (2 ^ n % 256 - 1) % 256
    omega
  rw [← E.out, ← e2]
theorem idx_at (r : Nat → Int) (k : Nat) (hk : k < 8) (w : World) : (Instr.index 48 (.agg #[.int .u8 (r 0), .int .u8 (r 1), .int .u8 (r 2), .int .u8 (r 3), .int .u8 (r 4), .int .u8 (r 5), .int .u8 (r 6), .int .u8 (r 7)]) (.int .i64 k)).run Try.prog w = .ok (.int .u8 (r k)) w := by
  rcases eight hk with rfl | rfl | rfl | rfl | rfl | rfl | rfl | rfl <;> kernel_rfl

def nx (s : Nat) (r : Nat → Int) (i : Nat) : Int := S8 (fun j => j == s || (decide (j < i) && r j == 2))
theorem nx_zero (s : Nat) (r : Nat → Int) (hs : s < 8) : nx s r 0 = bits BinOp.or IntKind.u8 0 (2 ^ s % 256) := by
  have e : (0 : Int) = S8 (fun _ => false) := by decide
  unfold nx
  rw [e, with_S8 _ s hs]
  exact S8_congr fun j _ => by simp
theorem nx_step (s : Nat) (r : Nat → Int) (k : Nat) (hk : k < 8) : nx s r (k + 1) = if r k = 2 then bits BinOp.or IntKind.u8 (nx s r k) (2 ^ k % 256) else nx s r k := by
  unfold nx
  split
  · rename_i h
    rw [with_S8 _ k hk]
    refine S8_congr fun j _ => ?_
    by_cases e : j = k
    · subst e; simp [h]
    · have : decide (j < k + 1) = decide (j < k) := by simp; omega
      simp [this, e]
  · rename_i h
    refine S8_congr fun j _ => ?_
    by_cases e : j = k
    · subst e; simp [h]
    · have : decide (j < k + 1) = decide (j < k) := by simp; omega
      simp [this]
theorem nx_end (s : Nat) (r : Nat → Int) : nx s r 8 = S8 (fun j => j == s || r j == 2) := by
  unfold nx
  exact S8_congr fun j hj => by simp [hj]
theorem blk_fin {w : World} {b : Nat} {t : TypeId} (c0 c1 c2 c3 c4 c5 c6 c7 c8 c9 c10 x z : Value) (h : w.heap[b]? = some (.cells #[c0, c1, c2, c3, c4, c5, c6, c7, c8, c9, c10] t (0, 0))) : (((((((((w.setCell ⟨b, 2, none⟩ x).setCell ⟨b, 3, none⟩ z).setCell ⟨b, 4, none⟩ z).setCell ⟨b, 5, none⟩ z).setCell ⟨b, 6, none⟩ z).setCell ⟨b, 7, none⟩ z).setCell ⟨b, 8, none⟩ z).setCell ⟨b, 9, none⟩ z).setCell ⟨b, 10, none⟩ z).heap[b]? = some (.cells #[c0, c1, x, z, z, z, z, z, z, z, z] t (0, 0)) := by
  have a2 : (w.setCell ⟨b, 2, none⟩ x).heap[b]? = some (.cells #[c0, c1, x, c3, c4, c5, c6, c7, c8, c9, c10] t (0, 0)) := by simpa using blk_set h 2 x
  have a3 : ((w.setCell ⟨b, 2, none⟩ x).setCell ⟨b, 3, none⟩ z).heap[b]? = some (.cells #[c0, c1, x, z, c4, c5, c6, c7, c8, c9, c10] t (0, 0)) := by simpa using blk_set a2 3 z
  have a4 : (((w.setCell ⟨b, 2, none⟩ x).setCell ⟨b, 3, none⟩ z).setCell ⟨b, 4, none⟩ z).heap[b]? = some (.cells #[c0, c1, x, z, z, c5, c6, c7, c8, c9, c10] t (0, 0)) := by simpa using blk_set a3 4 z
  have a5 : ((((w.setCell ⟨b, 2, none⟩ x).setCell ⟨b, 3, none⟩ z).setCell ⟨b, 4, none⟩ z).setCell ⟨b, 5, none⟩ z).heap[b]? = some (.cells #[c0, c1, x, z, z, z, c6, c7, c8, c9, c10] t (0, 0)) := by simpa using blk_set a4 5 z
  have a6 : (((((w.setCell ⟨b, 2, none⟩ x).setCell ⟨b, 3, none⟩ z).setCell ⟨b, 4, none⟩ z).setCell ⟨b, 5, none⟩ z).setCell ⟨b, 6, none⟩ z).heap[b]? = some (.cells #[c0, c1, x, z, z, z, z, c7, c8, c9, c10] t (0, 0)) := by simpa using blk_set a5 6 z
  have a7 : ((((((w.setCell ⟨b, 2, none⟩ x).setCell ⟨b, 3, none⟩ z).setCell ⟨b, 4, none⟩ z).setCell ⟨b, 5, none⟩ z).setCell ⟨b, 6, none⟩ z).setCell ⟨b, 7, none⟩ z).heap[b]? = some (.cells #[c0, c1, x, z, z, z, z, z, c8, c9, c10] t (0, 0)) := by simpa using blk_set a6 7 z
  have a8 : (((((((w.setCell ⟨b, 2, none⟩ x).setCell ⟨b, 3, none⟩ z).setCell ⟨b, 4, none⟩ z).setCell ⟨b, 5, none⟩ z).setCell ⟨b, 6, none⟩ z).setCell ⟨b, 7, none⟩ z).setCell ⟨b, 8, none⟩ z).heap[b]? = some (.cells #[c0, c1, x, z, z, z, z, z, z, c9, c10] t (0, 0)) := by simpa using blk_set a7 8 z
  have a9 : ((((((((w.setCell ⟨b, 2, none⟩ x).setCell ⟨b, 3, none⟩ z).setCell ⟨b, 4, none⟩ z).setCell ⟨b, 5, none⟩ z).setCell ⟨b, 6, none⟩ z).setCell ⟨b, 7, none⟩ z).setCell ⟨b, 8, none⟩ z).setCell ⟨b, 9, none⟩ z).heap[b]? = some (.cells #[c0, c1, x, z, z, z, z, z, z, z, c10] t (0, 0)) := by simpa using blk_set a8 9 z
  have a10 : (((((((((w.setCell ⟨b, 2, none⟩ x).setCell ⟨b, 3, none⟩ z).setCell ⟨b, 4, none⟩ z).setCell ⟨b, 5, none⟩ z).setCell ⟨b, 6, none⟩ z).setCell ⟨b, 7, none⟩ z).setCell ⟨b, 8, none⟩ z).setCell ⟨b, 9, none⟩ z).setCell ⟨b, 10, none⟩ z).heap[b]? = some (.cells #[c0, c1, x, z, z, z, z, z, z, z, z] t (0, 0)) := by simpa using blk_set a9 10 z
  exact a10
theorem Gr.fin {w : World} {b n s : Nat} {f g : Nat → Bool} {r : Nat → Int} (h : Gr w b n s f r) : Gr (((((((((w.setCell ⟨b, 2, none⟩ (.int .u8 (S8 g))).setCell ⟨b, 3, none⟩ (.int .u8 0)).setCell ⟨b, 4, none⟩ (.int .u8 0)).setCell ⟨b, 5, none⟩ (.int .u8 0)).setCell ⟨b, 6, none⟩ (.int .u8 0)).setCell ⟨b, 7, none⟩ (.int .u8 0)).setCell ⟨b, 8, none⟩ (.int .u8 0)).setCell ⟨b, 9, none⟩ (.int .u8 0)).setCell ⟨b, 10, none⟩ (.int .u8 0)) b n s g (fun _ => 0) ∧ Chg (· = b) w (((((((((w.setCell ⟨b, 2, none⟩ (.int .u8 (S8 g))).setCell ⟨b, 3, none⟩ (.int .u8 0)).setCell ⟨b, 4, none⟩ (.int .u8 0)).setCell ⟨b, 5, none⟩ (.int .u8 0)).setCell ⟨b, 6, none⟩ (.int .u8 0)).setCell ⟨b, 7, none⟩ (.int .u8 0)).setCell ⟨b, 8, none⟩ (.int .u8 0)).setCell ⟨b, 9, none⟩ (.int .u8 0)).setCell ⟨b, 10, none⟩ (.int .u8 0)) := by
  refine ⟨⟨blk_fin _ _ _ _ _ _ _ _ _ _ _ _ _ h.blk, h.n1, h.n8, h.s1, fun _ => by omega⟩, ?_⟩
  iterate 9 (refine Chg.setCell ?_ _ _ (.inl (Eq.refl b)))
  exact Chg.refl _ _
set_option maxHeartbeats 2000000 in
theorem end_ok (b n s : Nat) (f : Nat → Bool) (r : Nat → Int) (w : World) (h : Gr w b n s f r) (hz : S8 f ≠ 0) :
    Calls Try.prog 10 #[.pointer (some ⟨b, 0, none⟩)] w fun e w' => e = .returned (.tuple #[.int .u8 (S8 (endF s r)), .bool (S8 (endF s r) != 0), .int .i64 0]) ∧
      Gr w' b n s (endF s r) (fun _ => 0) ∧ Chg (· = b) w w' := by
  have h0 := h.c0
  have h1 := h.c1
  have h2 := h.c2
  have n1 := h.n1
  have n8 := h.n8
  have s1 := h.s1
  have r0 := h.c3 0 (by omega)
  have r1 := h.c3 1 (by omega)
  have r2 := h.c3 2 (by omega)
  have r3 := h.c3 3 (by omega)
  have r4 := h.c3 4 (by omega)
  have r5 := h.c3 5 (by omega)
  have r6 := h.c3 6 (by omega)
  have r7 := h.c3 7 (by omega)
  simp only [Nat.reduceAdd] at r0 r1 r2 r3 r4 r5 r6 r7
  have hz' : (S8 f == 0) = false := by simpa using hz
  clear hz
  go_enter Try.func10, Try.ntmps10
  go_wp2_with (first
    | (go_at_call 16; refine (there_any b n _ n1 h0).mono ?_; rintro e w' ⟨rfl, rfl⟩)
    | (go_at_call 17; refine (with_any 0 s _ (by omega) (by omega)).mono ?_; rintro e w' ⟨rfl, rfl⟩))
  go_loop [6, 7, 8, 31] (fun x y z i => ∃ k : Nat, k ≤ 8 ∧ i = .int .i64 k ∧ x = .int .u8 (nx s r k) ∧ y = .int .i64 (1 + cnt r 2 k) ∧ z = .int .i64 (cnt r 3 k))
    (fun _ _ _ i => 8 - (intOf i).toNat)
  case atStart => exact ⟨0, by omega, rfl, by rw [nx_zero s r (by omega)], rfl, rfl⟩
  case round =>
    obtain ⟨k, hk, rfl, rfl, rfl, rfl⟩ := hrel
    have c2 := cnt_range r 2 k
    have c3 := cnt_range r 3 k
    have hr := h.row k
    by_cases hlt : k < 8
    · have hi := idx_at r k hlt
      have hnr : 0 ≤ nx s r k ∧ nx s r k ≤ 255 := S8_range _
      have hstep := nx_step s r k hlt
      have H2 : Hid (cnt r 2 (k + 1) = cnt r 2 k + (if r k = 2 then 1 else 0)) := rfl
      have H3 : Hid (cnt r 3 (k + 1) = cnt r 3 k + (if r k = 3 then 1 else 0)) := rfl
      have HS := Lib.hid hstep
      clear hstep
      have hcase : (r k == 2) = true ∨ ((r k == 2) = false ∧ (r k == 3) = true) ∨ ((r k == 2) = false ∧ (r k == 3) = false) := by
        by_cases a : r k = 2 <;> by_cases b : r k = 3 <;> simp [a, b]
      rcases hcase with q2 | ⟨q2, q3⟩ | ⟨q2, q3⟩
      · go_wp2_with (go_at_call 17; refine (with_any _ k _ hnr hlt).mono ?_; rintro e w' ⟨rfl, rfl⟩)
        go_round
        case rel => exact ⟨k + 1, by omega, by go_num, by rw [HS.out, if_pos (by simpa using q2)], by rw [H2.out, if_pos (by simpa using q2)]; go_num, by rw [H3.out, if_neg (by intro e; rw [e] at q2; simp at q2)]; go_num⟩
        case measure => simp [intOf]; omega
      · go_wp2
        go_round
        case rel => exact ⟨k + 1, by omega, by go_num, by rw [HS.out, if_neg (by simpa using q2)], by rw [H2.out, if_neg (by simpa using q2)]; go_num, by rw [H3.out, if_pos (by simpa using q3)]⟩
        case measure => simp [intOf]; omega
      · go_wp2
        go_round
        case rel => exact ⟨k + 1, by omega, by go_num, by rw [HS.out, if_neg (by simpa using q2)], by rw [H2.out, if_neg (by simpa using q2)]; go_num, by rw [H3.out, if_neg (by simpa using q3)]; go_num⟩
        case measure => simp [intOf]; omega
    · obtain rfl : k = 8 := by omega
      have f2 : w.frozen? ⟨b, 2, none⟩ = false := blk_free h.blk _
      have f3 : w.frozen? ⟨b, 3, none⟩ = false := blk_free h.blk _
      have f4 : w.frozen? ⟨b, 4, none⟩ = false := blk_free h.blk _
      have f5 : w.frozen? ⟨b, 5, none⟩ = false := blk_free h.blk _
      have f6 : w.frozen? ⟨b, 6, none⟩ = false := blk_free h.blk _
      have f7 : w.frozen? ⟨b, 7, none⟩ = false := blk_free h.blk _
      have f8 : w.frozen? ⟨b, 8, none⟩ = false := blk_free h.blk _
      have f9 : w.frozen? ⟨b, 9, none⟩ = false := blk_free h.blk _
      have f10 : w.frozen? ⟨b, 10, none⟩ = false := blk_free h.blk _
      by_cases hge : 1 + cnt r 2 8 ≤ cnt r 3 8
      · have he : S8 (endF s r) = 0 := by rw [S8_zero]; intro j _; unfold endF; rw [if_pos hge]
        have hfin := h.fin (g := endF s r)
        rw [he] at hfin
        have HF := Lib.hid hfin
        have HE := Lib.hid he
        clear hfin he
        go_wp2
        go_ret3
        exact ⟨by rw [HE.out]; rfl, HF.out⟩
      · have he : nx s r 8 = S8 (endF s r) := by rw [nx_end]; unfold endF; rw [if_neg hge]
        have hfin := h.fin (g := endF s r)
        rw [← he] at hfin
        have HF := Lib.hid hfin
        have HE := Lib.hid he
        clear hfin he
        go_wp2
        go_ret3
        exact ⟨by rw [← HE.out]; rfl, HF.out⟩
theorem end_gone (b n s : Nat) (f : Nat → Bool) (r : Nat → Int) (w : World) (h : Gr w b n s f r) (hz : S8 f = 0) :
    Calls Try.prog 10 #[.pointer (some ⟨b, 0, none⟩)] w fun e w' => e = .returned (.tuple #[.int .u8 0, .bool false, .int .i64 11]) ∧ w = w' := by
  have h0 := h.c0
  have h2 := h.c2
  have n1 := h.n1
  have hz' : (S8 f == 0) = true := by simpa using hz
  clear hz
  go_enter Try.func10, Try.ntmps10
  go_wp2_with (go_at_call 16; refine (there_any b n _ n1 h0).mono ?_; rintro e w' ⟨rfl, rfl⟩)
  go_ret3
  exact ⟨rfl, rfl⟩
end Go.Proofs.Ytpkeclkfgfkddaa
