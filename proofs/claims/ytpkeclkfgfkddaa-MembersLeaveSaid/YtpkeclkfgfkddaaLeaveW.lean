/- MembersLeave: the walk. -/
import Derived.Test.YtpkeclkfgfkddaaLeave
namespace Go.Proofs.Ytpkeclkfgfkddaa
open Go.RowKit
set_option linter.unusedVariables false

set_option maxRecDepth 100000 in
set_option maxHeartbeats 8000000 in
theorem leave_any (st se : Int) (a : Option Addr) (len cap : Nat) (xs : Nat → Act5) (w : World) (hst : 0 ≤ st ∧ st ≤ 255) (hse : 0 ≤ se ∧ se ≤ 255) (hx : Acts w a len xs) :
    Calls Try.prog 4 #[.int .u8 st, .int .u8 se, .slice a len cap] w fun e w' => e = .returned (.bool true) ∧ Chg (fun _ => False) w w' := by
  obtain ⟨n, hn⟩ : ∃ n : Nat, 1 + st % 8 = (n : Int) := ⟨(1 + st % 8).toNat, by omega⟩
  have h1 : 1 ≤ n := by omega
  have h8 : n ≤ 8 := by omega
  have hem := Int.emod_nonneg se (show (n : Int) ≠ 0 by omega)
  have hlm := Int.emod_lt_of_pos se (show (0 : Int) < n by omega)
  obtain ⟨s, hs0⟩ : ∃ s : Nat, se % (n : Int) = (s : Int) := ⟨(se % (n : Int)).toNat, by omega⟩
  have hs : s < n := by omega
  clear hem hlm
  by_cases hl : 300 < len
  · go_enter Try.func4, Try.ntmps4
    go_wp2_with fail
    rw [show 1 + (s : Int) = s + 1 from by omega]
    refine (new_ok n s w h1 h8 hs).mono ?_
    rintro e w1 ⟨rfl, g1, c1⟩
    go_wp2_with fail
    refine (lives_any _).mono ?_
    rintro e w' ⟨rfl, hC⟩
    go_wp2_with fail
    go_ret
    exact ⟨rfl, c1.trans (hC.mono (fun _ _ h => h))⟩
  · have hl' : len ≤ 300 := by omega
    clear hl
    go_enter Try.func4, Try.ntmps4
    go_wp2_with fail
    rw [show 1 + (s : Int) = s + 1 from by omega]
    refine (new_ok n s w h1 h8 hs).mono ?_
    rintro e w1 ⟨rfl, g1, c1⟩
    go_wp2_with fail
    refine (members_any _ n s _ _ _ g1).mono ?_
    rintro e w' ⟨rfl, rfl⟩
    have K0 : Keep s (fun j => decide (j < n)) (fun _ => 0) := ⟨fun j _ h => by simp at h, fun _ => by simpa using hs⟩
    go_wp2_with fail
    go_loopw [11, 12] (fun was i wr => ∃ k : Nat, k ≤ len ∧ i = .int .i64 k ∧ ∃ f r, was = .int .u8 (S8 f) ∧ Gr wr w.heap.size n s f r ∧ Keep s f r ∧ Chg (fun _ => False) w wr)
      (fun _ i _ => len - (intOf i).toNat)
    case atStart => exact ⟨0, by omega, rfl, _, _, rfl, g1, K0, c1⟩
    case round =>
      obtain ⟨k, hk, rfl, f, r, rfl, hg, hK, hC⟩ := hrel
      by_cases hlt : k < len
      · obtain ⟨ad, rfl, hat⟩ := hx.at_ k hlt
        have hok := hx.ok k hlt
        have hat' := hat.chg hC (fun h => h)
        obtain ⟨b, o, sp⟩ := ad
        obtain rfl : sp = none := hat.spot
        have x0 := hat'.c0
        have x1 := hat'.c1
        have x2 := hat'.c2
        have x3 := hat'.c3
        have x4 := hat'.c4
        dsimp only at x0 x1 x2 x3 x4
        generalize xs k = x at *
        obtain ⟨xk, xst, xc, xm, xo⟩ := x
        have hk6 := hok.k
        have hq := hok.s
        dsimp only at x0 x1 x2 x3 x4 hk6 hq
        have HQ := Lib.hid hq
        clear hq
        by_cases h5 : xk % 6 = 5
        · have cA := Chg.alloc (Chg.refl (fun _ => False) wr) (.cells #[.int .u8 xk, .int .i64 xst, .bool xc, .int .u8 xm, .bool xo] 32)
          have gA := hg.chg cA (fun h => h)
          have CA := hC.trans cA
          have h5' : (xk % 6 != 5) = false := by simpa using h5
          clear h5 hg hC cA
          by_cases hz : S8 f = 0
          · have HZ := Lib.hid hz
            have hz' : (S8 f == 0) = true := by simpa using hz
            clear hz
            go_wp2_with fail
            refine (end_gone _ n s f r _ gA HZ.out).mono ?_
            rintro e w3 ⟨rfl, rfl⟩
            go_wp2_with fail
            refine (lives_any _).mono ?_
            rintro e w' ⟨rfl, hL⟩
            go_wp2_with fail
            go_ret
            exact ⟨rfl, CA.trans (hL.mono (fun _ _ h => h))⟩
          · have hcut := hK.cut hz
            have hE : Keep s (endF s r) (fun _ => 0) := Keep.end (f := f) (r := r) (by omega)
            have q1 : (bits BinOp.andNot IntKind.u8 (S8 (endF s r)) (S8 f) != 0) = false := by rw [hcut]; rfl
            have q2 : S8 (endF s r) ≠ 0 → (bits BinOp.and IntKind.u8 (S8 (endF s r) / 2 ^ s) 1 == 0) = false := fun h => by rw [has0_S8 _ s (by omega), hE.self h]; rfl
            have HZ := Lib.hid hz
            clear hz hcut
            go_wp2_with fail
            refine (end_ok _ n s f r _ gA HZ.out).mono ?_
            rintro e w3 ⟨rfl, g3, c3⟩
            have C3 : Chg (fun _ => False) w w3 := ⟨c3.os.trans CA.os, c3.tape.trans CA.tape, c3.output.trans CA.output, by have := CA.size; have := c3.size; omega, fun k hk hn => by
              have := CA.size
              exact (c3.block k (by omega) (by omega)).trans (CA.block k hk hn)⟩
            clear c3 CA
            by_cases hz2 : S8 (endF s r) = 0
            · have z1 : (S8 (endF s r) != 0) = false := by simpa using hz2
              clear hz2 q2
              go_wp2_with fail
              refine (members_any _ n s _ _ _ g3).mono ?_
              rintro e w' ⟨rfl, rfl⟩
              go_wp2_with fail
              go_roundw
              case rel => exact ⟨k + 1, by omega, by go_num, _, _, rfl, g3, hE, C3⟩
              case measure => simp [intOf]; omega
            · have z1 : (S8 (endF s r) != 0) = true := by simpa using hz2
              have q2' := q2 hz2
              clear hz2 q2
              go_wp2_with fail
              refine (members_any _ n s _ _ _ g3).mono ?_
              rintro e w' ⟨rfl, rfl⟩
              go_wp2_with fail
              go_roundw
              case rel => exact ⟨k + 1, by omega, by go_num, _, _, rfl, g3, hE, C3⟩
              case measure => simp [intOf]; omega
        · have h5' : (xk % 6 != 5) = true := by simpa using h5
          clear h5
          cases xo
          · have cA := Chg.alloc (Chg.refl (fun _ => False) wr) (.cells #[.int .u8 xk, .int .i64 xst, .bool xc, .int .u8 xm, .bool false] 32)
            have gA := hg.chg cA (fun h => h)
            have CA := hC.trans cA
            clear cA hC
            go_wp2_with fail
            refine (heard_any _ n s f r xst xc (xm) _ gA HQ.out).mono ?_
            rintro e w3 ⟨rfl, g3, c3⟩
            have C3 : Chg (fun _ => False) w w3 := ⟨c3.os.trans CA.os, c3.tape.trans CA.tape, c3.output.trans CA.output, by have := CA.size; have := c3.size; omega, fun k hk hn => by
              have := CA.size
              exact (c3.block k (by omega) (by omega)).trans (CA.block k hk hn)⟩
            clear c3 CA
            go_wp2_with fail
            go_roundw
            case rel => exact ⟨k + 1, by omega, by go_num, _, _, rfl, g3, hK.heard (n := n) xst xc (xm), C3⟩
            case measure => simp [intOf]; omega
          · have gB := hg.chg (Chg.alloc (Chg.refl (fun _ => False) wr) (.cells #[.int .u8 xk, .int .i64 xst, .bool xc, .int .u8 xm, .bool true] 32)) (fun h => h)
            have lgb := lt_of_block hg.blk
            have cA := Chg.alloc (Chg.refl (fun _ => False) wr) (.cells #[.int .u8 xk, .int .i64 xst, .bool xc, .int .u8 (S8 f), .bool true] 32)
            have gA := hg.chg cA (fun h => h)
            have CA := hC.trans cA
            clear cA hC
            go_wp2_with fail
            refine (members_any _ n s _ _ _ gB).mono ?_
            rintro e w' ⟨rfl, rfl⟩
            go_wp2_with fail
            refine (heard_any _ n s f r xst xc (S8 f) _ gA HQ.out).mono ?_
            rintro e w3 ⟨rfl, g3, c3⟩
            have C3 : Chg (fun _ => False) w w3 := ⟨c3.os.trans CA.os, c3.tape.trans CA.tape, c3.output.trans CA.output, by have := CA.size; have := c3.size; omega, fun k hk hn => by
              have := CA.size
              exact (c3.block k (by omega) (by omega)).trans (CA.block k hk hn)⟩
            clear c3 CA
            go_wp2_with fail
            go_roundw
            case rel => exact ⟨k + 1, by omega, by go_num, _, _, rfl, g3, hK.heard (n := n) xst xc (S8 f), C3⟩
            case measure => simp [intOf]; omega
      · go_wp2_with fail
        refine (lives_any _).mono ?_
        rintro e w' ⟨rfl, hL⟩
        go_wp2_with fail
        go_ret
        exact ⟨rfl, hC.trans (hL.mono (fun _ _ h => h))⟩
end Go.Proofs.Ytpkeclkfgfkddaa
