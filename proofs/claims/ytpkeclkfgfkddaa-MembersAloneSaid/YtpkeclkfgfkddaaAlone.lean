/- MembersAlone: the walk. -/
import Derived.Test.YtpkeclkfgfkddaaSim
namespace Go.Proofs.Ytpkeclkfgfkddaa
open Go.RowKit
set_option linter.unusedVariables false

theorem xor_S8 (f : Nat → Bool) : bits BinOp.xor IntKind.u8 (S8 f) 1 ≠ S8 f := by
  have key : ∀ a0 a1 a2 a3 a4 a5 a6 a7 : Bool, bits BinOp.xor IntKind.u8 (b2i a0 1 + b2i a1 2 + b2i a2 4 + b2i a3 8 + b2i a4 16 + b2i a5 32 + b2i a6 64 + b2i a7 128) 1 ≠
      b2i a0 1 + b2i a1 2 + b2i a2 4 + b2i a3 8 + b2i a4 16 + b2i a5 32 + b2i a6 64 + b2i a7 128 := by decide +kernel
  exact key (f 0) (f 1) (f 2) (f 3) (f 4) (f 5) (f 6) (f 7)
theorem S8_one (s : Nat) (hs : s < 8) : S8 (fun j => j == s) = 2 ^ s % 256 := by
  rcases eight hs with rfl | rfl | rfl | rfl | rfl | rfl | rfl | rfl <;> decide
theorem endF_none (s : Nat) : endF s (fun _ => 0) = fun j => j == s := by
  unfold endF
  rw [if_neg (by decide)]
  funext j
  simp
theorem endF_there (s : Nat) (r : Nat → Int) (hs : s < 8) : (S8 (endF s r) != 0) = decide (cnt r 3 8 < 1 + cnt r 2 8) := by
  by_cases h : 1 + cnt r 2 8 ≤ cnt r 3 8
  · have e : S8 (endF s r) = 0 := by rw [S8_zero]; intro j _; unfold endF; rw [if_pos h]
    rw [e]
    have : ¬ (cnt r 3 8 < 1 + cnt r 2 8) := by omega
    simp [this]
  · have e : S8 (endF s r) ≠ 0 := by
      intro h0
      have := (S8_zero _).1 h0 s hs
      unfold endF at this
      rw [if_neg h] at this
      simp at this
    have h' : cnt r 3 8 < 1 + cnt r 2 8 := by omega
    simp [e, h']

set_option maxRecDepth 100000 in
set_option maxHeartbeats 8000000 in
theorem alone_any (st se ye no : Int) (w : World) (hst : 0 ≤ st ∧ st ≤ 255) (hse : 0 ≤ se ∧ se ≤ 255) (hye : 0 ≤ ye ∧ ye ≤ 255) (hno : 0 ≤ no ∧ no ≤ 255) :
    Calls Try.prog 6 #[.agg #[.int .u8 st, .int .u8 se, .int .u8 ye, .int .u8 no]] w fun e w' => e = .returned (.bool true) ∧ Chg (fun _ => False) w w' := by
  obtain ⟨n, hn⟩ : ∃ n : Nat, 1 + st % 8 = (n : Int) := ⟨(1 + st % 8).toNat, by omega⟩
  have h1 : 1 ≤ n := by omega
  have h8 : n ≤ 8 := by omega
  have hem := Int.emod_nonneg se (show (n : Int) ≠ 0 by omega)
  have hlm := Int.emod_lt_of_pos se (show (0 : Int) < n by omega)
  obtain ⟨s, hs0⟩ : ∃ s : Nat, se % (n : Int) = (s : Int) := ⟨(se % (n : Int)).toNat, by omega⟩
  have hs : s < n := by omega
  clear hem hlm
  go_enter Try.func6, Try.ntmps6
  go_wp2_with fail
  generalize hw0 : w.alloc (.cells #[.int .u8 st, .int .u8 se, .int .u8 ye, .int .u8 no] 44) = w0
  have C0 : Chg (fun _ => False) w w0 := by rw [← hw0]; exact Chg.alloc (Chg.refl _ _) _
  clear hw0
  rw [show 1 + (s : Int) = s + 1 from by omega]
  refine (new_ok n s w0 h1 h8 hs).mono ?_
  rintro e w1 ⟨rfl, g1, c1⟩
  go_wp2_with fail
  refine (new_ok n s w1 h1 h8 hs).mono ?_
  rintro e w2 ⟨rfl, m2, c2⟩
  have g2 := g1.chg c2 (fun h => h)
  have lb : w.heap.size ≤ w0.heap.size := C0.size
  have lbd : w0.heap.size < w1.heap.size := lt_of_block g1.blk
  have C2 : Chg (fun _ => False) w w2 := (C0.trans c1).trans c2
  generalize hb : w0.heap.size = b at *
  generalize hd : w1.heap.size = d at *
  clear g1 c1 c2 C0 hb hd
  go_wp2_with fail
  go_loopw [13] (fun i wr => ∃ k : Nat, k ≤ 3 ∧ i = .int .i64 k ∧ ∃ f, S8 f ≠ 0 ∧ Gr wr b n s f (fun _ => 0) ∧ Gr wr d n s (fun j => decide (j < n)) (fun _ => 0) ∧ Chg (fun _ => False) w wr)
    (fun i _ => 3 - (intOf i).toNat)
  case atStart => exact ⟨0, by omega, rfl, _, by intro h; have := (S8_zero _).1 h 0 (by omega); simp at this; omega, g2, m2, C2⟩
  case round =>
    obtain ⟨k, hk, rfl, f, hz, hg, hm, hC⟩ := hrel
    by_cases hlt : k < 3
    · have q1 : (S8 (endF s (fun _ => 0)) != 2 ^ s % 256) = false := by rw [endF_none, S8_one s (by omega)]; simp
      have q2 : (S8 (endF s (fun _ => 0)) != 0) = true := by rw [endF_there s _ (by omega)]; decide
      have q3 : S8 (endF s (fun _ => 0)) ≠ 0 := by simpa using q2
      have Q3 := Lib.hid q3
      have HZ := Lib.hid hz
      clear q3 hz
      go_wp2_with fail
      refine (end_ok b n s f _ _ hg HZ.out).mono ?_
      rintro e w3 ⟨rfl, g3, c3⟩
      have m3 := hm.chg c3 (by omega)
      have C3 : Chg (fun _ => False) w w3 := ⟨c3.os.trans hC.os, c3.tape.trans hC.tape, c3.output.trans hC.output, by have := hC.size; have := c3.size; omega, fun k hk hn => by
        have := hC.size
        exact (c3.block k (by omega) (by omega)).trans (hC.block k hk hn)⟩
      clear c3 hC
      go_wp2_with fail
      go_roundw
      case rel => exact ⟨k + 1, by omega, by go_num, _, Q3.out, g3, m3, C3⟩
      case measure => simp [intOf]; omega
    · obtain rfl : k = 3 := by omega
      clear g2 m2 C2 hg hz
      go_wp2_with fail
      refine (members_any d n s _ _ _ hm).mono ?_
      rintro e w' ⟨rfl, rfl⟩
      go_wp2_with fail
      obtain ⟨wo, rfl⟩ : ∃ wo : World, wo = wr := ⟨_, rfl⟩
      go_loopw [17, 18, 20] (fun a b' i wr => ∃ k : Nat, k ≤ n ∧ i = .int .i64 ((k : Int) + 1) ∧ ∃ r, a = .int .i64 (1 + cnt r 2 8) ∧ b' = .int .i64 (cnt r 3 8) ∧ (∀ j, k ≤ j → r j = 0) ∧ Gr wr d n s (fun j => decide (j < n)) r ∧ Chg (fun _ => False) w wr)
        (fun _ _ i _ => n + 1 - (intOf i).toNat)
      case atStart => exact ⟨0, by omega, rfl, _, rfl, rfl, fun _ _ => rfl, hm, hC⟩
      case round =>
        obtain ⟨k, hk, rfl, r, rfl, rfl, hr, hm', hC'⟩ := hrel
        have cr2 := cnt_range r 2 8
        have cr3 := cnt_range r 3 8
        by_cases hlt : k < n
        · by_cases hks : k = s
          · have e1 : ((k : Int) + 1 == (s : Int) + 1) = true := by simp; omega
            have e2 : ((k : Int) == (s : Int)) = true := by simp; omega
            have hr' : ∀ j, k + 1 ≤ j → r j = 0 := fun j hj => hr j (by omega)
            clear hks
            go_wp2_with fail
            go_roundw
            case rel => exact ⟨k + 1, by omega, by go_num, _, rfl, rfl, hr', hm', hC'⟩
            case measure => simp [intOf]; omega
          · have e1 : ((k : Int) + 1 == (s : Int) + 1) = false := by simp; omega
            have e2 : ((k : Int) == (s : Int)) = false := by simp; omega
            have rk := hr k (by omega)
            have hfull : (fun j => decide (j < n)) k = true := by simpa using hlt
            have hne : S8 (fun j => decide (j < n)) ≠ 0 := by intro h; have := (S8_zero _).1 h 0 (by omega); simp at this; omega
            have hC0 : heardC n s (fun j => decide (j < n)) r (k + 1) = 0 := by
              unfold heardC
              rw [if_neg hne, if_neg (by omega), show ((k : Int) + 1 - 1).toNat = k from by omega, if_neg (by simp [rk])]
            have HC0 := Lib.hid hC0
            have hRR : ∀ mem, heardR n s (fun j => decide (j < n)) r (k + 1) true mem = upd r k (heardV (fun j => decide (j < n)) k true mem) := by
              intro mem
              unfold heardR
              rw [if_pos hC0, show ((k : Int) + 1 - 1).toNat = k from by omega]
            clear hC0
            by_cases y1 : (bits BinOp.and IntKind.u8 (ye / 2 ^ k) 1 == 1) = true
            · have hV : heardV (fun j => decide (j < n)) k true (S8 (fun j => decide (j < n))) = 2 := by
                unfold heardV
                rw [if_neg (by rw [hfull]; simp), if_pos rfl]
              have HR := Lib.hid ((hRR (S8 (fun j => decide (j < n)))).trans (by rw [hV]))
              have n2 := cnt_upd r k 2 2 (by omega) 8
              have n3 := cnt_upd r k 2 3 (by omega) 8
              rw [if_pos (by omega)] at n2
              rw [if_neg (by omega)] at n3
              have HN2 := Lib.hid n2
              have HN3 := Lib.hid n3
              have HB : Hid (∀ j, k + 1 ≤ j → upd r k 2 j = 0) := fun j hj => by unfold upd; rw [if_neg (by omega)]; exact hr j (by omega)
              clear hV hRR n2 n3 rk hfull hne hks
              go_wp2_with fail
              refine (heard_v hm' (k + 1) true (S8 (fun j => decide (j < n))) (by omega) 0 HC0.out).mono ?_
              rintro e w3 ⟨rfl, m3, c3⟩
              have C3 : Chg (fun _ => False) w w3 := ⟨c3.os.trans hC'.os, c3.tape.trans hC'.tape, c3.output.trans hC'.output, by have := hC'.size; have := c3.size; omega, fun k hk hn => by
                have := hC'.size
                exact (c3.block k (by omega) (by omega)).trans (hC'.block k hk hn)⟩
              clear c3 hC'
              rw [HR.out] at m3
              go_wp2_with fail
              go_roundw
              case rel => exact ⟨k + 1, by omega, by go_num, _, by rw [HN2.out]; go_num, by rw [HN3.out]; go_num, HB.out, m3, C3⟩
              case measure => simp [intOf]; omega
            · have y1' : (bits BinOp.and IntKind.u8 (ye / 2 ^ k) 1 == 1) = false := by simpa using y1
              clear y1
              by_cases y2 : (bits BinOp.and IntKind.u8 (no / 2 ^ k) 1 == 1) = true
              · have hV : heardV (fun j => decide (j < n)) k true (bits BinOp.xor IntKind.u8 (S8 (fun j => decide (j < n))) 1) = 3 := by
                  unfold heardV
                  rw [if_neg (by rw [hfull]; simp), if_neg (xor_S8 _)]
                have HR := Lib.hid ((hRR (bits BinOp.xor IntKind.u8 (S8 (fun j => decide (j < n))) 1)).trans (by rw [hV]))
                have n2 := cnt_upd r k 3 2 (by omega) 8
                have n3 := cnt_upd r k 3 3 (by omega) 8
                rw [if_neg (by omega)] at n2
                rw [if_pos (by omega)] at n3
                have HN2 := Lib.hid n2
                have HN3 := Lib.hid n3
                have HB : Hid (∀ j, k + 1 ≤ j → upd r k 3 j = 0) := fun j hj => by unfold upd; rw [if_neg (by omega)]; exact hr j (by omega)
                clear hV hRR n2 n3 rk hfull hne hks
                go_wp2_with fail
                refine (heard_v hm' (k + 1) true (bits BinOp.xor IntKind.u8 (S8 (fun j => decide (j < n))) 1) (by omega) 0 HC0.out).mono ?_
                rintro e w3 ⟨rfl, m3, c3⟩
                have C3 : Chg (fun _ => False) w w3 := ⟨c3.os.trans hC'.os, c3.tape.trans hC'.tape, c3.output.trans hC'.output, by have := hC'.size; have := c3.size; omega, fun k hk hn => by
                  have := hC'.size
                  exact (c3.block k (by omega) (by omega)).trans (hC'.block k hk hn)⟩
                clear c3 hC'
                rw [HR.out] at m3
                go_wp2_with fail
                go_roundw
                case rel => exact ⟨k + 1, by omega, by go_num, _, by rw [HN2.out]; go_num, by rw [HN3.out], HB.out, m3, C3⟩
                case measure => simp [intOf]; omega
              · have y2' : (bits BinOp.and IntKind.u8 (no / 2 ^ k) 1 == 1) = false := by simpa using y2
                have hr' : ∀ j, k + 1 ≤ j → r j = 0 := fun j hj => hr j (by omega)
                clear y2 hRR rk hfull hne hks
                go_wp2_with fail
                go_roundw
                case rel => exact ⟨k + 1, by omega, by go_num, _, rfl, rfl, hr', hm', hC'⟩
                case measure => simp [intOf]; omega
        · obtain rfl : k = n := by omega
          have hth := endF_there s r (by omega)
          have hne : S8 (fun j => decide (j < k)) ≠ 0 := by intro h; have := (S8_zero _).1 h 0 (by omega); simp at this; omega
          have HT := Lib.hid hth
          have HN := Lib.hid hne
          clear hth hne
          go_wp2_with fail
          refine (end_ok d k s _ r _ hm' HN.out).mono ?_
          rintro e w3 ⟨rfl, m3, c3⟩
          have C3 : Chg (fun _ => False) w w3 := ⟨c3.os.trans hC'.os, c3.tape.trans hC'.tape, c3.output.trans hC'.output, by have := hC'.size; have := c3.size; omega, fun k hk hn => by
            have := hC'.size
            exact (c3.block k (by omega) (by omega)).trans (hC'.block k hk hn)⟩
          clear c3 hC'
          have HT2 : (S8 (endF s r) != 0) = decide (cnt r 3 8 < 1 + cnt r 2 8) := HT.out
          go_wp2_with fail
          refine (lives_any _).mono ?_
          rintro e w' ⟨rfl, hL⟩
          go_wp2_with fail
          go_ret
          exact ⟨rfl, C3.trans (hL.mono (fun _ _ h => h))⟩
end Go.Proofs.Ytpkeclkfgfkddaa
