/- MembersPlay: the walk. -/
import Derived.Test.YtpkeclkfgfkddaaSim
import Derived.Deep.RegionHeld3
namespace Go.Proofs.Ytpkeclkfgfkddaa
open Go.RowKit
set_option linter.unusedVariables false

/-- What a group is told. -/
structure Act5 where
  kind : Int
  st : Int
  came : Bool
  mem : Int
  own : Bool
structure Act5.ok (x : Act5) : Prop where
  k : 0 ≤ x.kind ∧ x.kind ≤ 255
  s : -9223372036854775808 ≤ x.st ∧ x.st ≤ 9223372036854775807
  m : 0 ≤ x.mem ∧ x.mem ≤ 255
/-- Row number i at that address holds x. -/
structure Act5.at (w : World) (a : Addr) (i : Nat) (x : Act5) : Prop where
  lt : a.block < w.heap.size
  spot : a.spot = none
  c0 : w.cell? ⟨a.block, a.off + i * 5, none⟩ = some (.int .u8 x.kind)
  c1 : w.cell? ⟨a.block, a.off + i * 5 + 1, none⟩ = some (.int .i64 x.st)
  c2 : w.cell? ⟨a.block, a.off + i * 5 + 2, none⟩ = some (.bool x.came)
  c3 : w.cell? ⟨a.block, a.off + i * 5 + 3, none⟩ = some (.int .u8 x.mem)
  c4 : w.cell? ⟨a.block, a.off + i * 5 + 4, none⟩ = some (.bool x.own)
structure Acts (w : World) (a : Option Addr) (len : Nat) (xs : Nat → Act5) : Prop where
  at_ : ∀ i, i < len → ∃ ad, a = some ad ∧ Act5.at w ad i (xs i)
  ok : ∀ i, i < len → (xs i).ok
theorem Act5.at.chg {w w1 : World} {a : Addr} {i : Nat} {x : Act5} {S : Nat → Prop} (h : Act5.at w a i x) (hc : Chg S w w1) (hs : ¬ S a.block) : Act5.at w1 a i x :=
  ⟨by have := h.lt; have := hc.size; omega, h.spot, hc.cell h.c0 hs, hc.cell h.c1 hs, hc.cell h.c2 hs, hc.cell h.c3 hs, hc.cell h.c4 hs⟩

set_option maxHeartbeats 2000000 in
theorem play_long (n s : Int) (a : Option Addr) (len cap : Nat) (w : World) (hl : 300 < len) :
    Calls Try.prog 3 #[.int .i64 n, .int .i64 s, .slice a len cap] w fun e w' => e = .returned (.bool true) ∧ Chg (fun _ => False) w w' := by
  go_enter Try.func3, Try.ntmps3
  go_wp2_with fail
  refine (lives_any _).mono ?_
  rintro e w' ⟨rfl, hC⟩
  go_wp2_with fail
  go_ret
  exact ⟨rfl, hC⟩
set_option maxHeartbeats 2000000 in
theorem play_bad (n s : Int) (a : Option Addr) (len cap : Nat) (w : World) (h : n < 1 ∨ 8 < n ∨ s < 1 ∨ n < s) :
    Calls Try.prog 3 #[.int .i64 n, .int .i64 s, .slice a len cap] w fun e w' => e = .returned (.bool true) ∧ Chg (fun _ => False) w w' := by
  by_cases hl : 300 < len
  · exact play_long n s a len cap w hl
  · have hl' : len ≤ 300 := by omega
    clear hl
    go_enter Try.func3, Try.ntmps3
    go_wp2_with fail
    refine (new_bad n s _ h).mono ?_
    rintro e w' ⟨rfl, rfl⟩
    go_wp2_with fail
    refine (rnew_bad n s _ h).mono ?_
    rintro e w' ⟨rfl, rfl⟩
    go_wp2_with fail
    refine wp_loop_rounds 1 ?_
    rw [rounds_succ]
    go_wp2_with fail
    all_goals
      refine (lives_any _).mono ?_
      rintro e w' ⟨rfl, hC⟩
      go_wp2_with fail
      go_ret
      exact ⟨rfl, hC⟩

theorem play_chg {w w1 w2 w3 : World} {b d : Nat} (h : Chg (fun _ => False) w w1) (h1 : Chg (· = b) w1 w2) (h2 : Chg (· = d) w2 w3) (hb : w.heap.size ≤ b) (hd : w.heap.size ≤ d) : Chg (fun _ => False) w w3 :=
  ⟨h2.os.trans (h1.os.trans h.os), h2.tape.trans (h1.tape.trans h.tape), h2.output.trans (h1.output.trans h.output), by have := h.size; have := h1.size; have := h2.size; omega,
    fun k hk hn => by
      have := h.size
      have := h1.size
      exact (h2.block k (by omega) (by omega)).trans ((h1.block k (by omega) (by omega)).trans (h.block k hk hn))⟩
set_option maxRecDepth 100000 in
set_option maxHeartbeats 8000000 in
theorem play_ok (n s : Nat) (a : Option Addr) (len cap : Nat) (xs : Nat → Act5) (w : World) (h1 : 1 ≤ n) (h8 : n ≤ 8) (hs : s < n) (hx : Acts w a len xs) (hl : len ≤ 300) :
    Calls Try.prog 3 #[.int .i64 n, .int .i64 (s + 1), .slice a len cap] w fun e w' => e = .returned (.bool true) ∧ Chg (fun _ => False) w w' := by
  go_enter Try.func3, Try.ntmps3
  go_wp2_with fail
  refine (new_ok n s w h1 h8 hs).mono ?_
  rintro e w1 ⟨rfl, g1, c1⟩
  go_wp2_with fail
  refine (rnew_ok n s w1 h1 h8 hs).mono ?_
  rintro e w2 ⟨rfl, m2, c2⟩
  have g2 := g1.chg c2 (fun h => h)
  have hB : w.heap.size < w1.heap.size := lt_of_block g1.blk
  have hd2 : w1.heap.size < w2.heap.size := lt_of_block m2.blk
  generalize hd : w1.heap.size = d at *
  have S0 := Sim.start n s h8 hs
  have C2 : Chg (fun _ => False) w w2 := ⟨c2.os.trans c1.os, c2.tape.trans c1.tape, c2.output.trans c1.output, by have := c1.size; have := c2.size; omega, fun k hk _ => (c2.block k (by omega) (fun h => h)).trans (c1.block k hk (fun h => h))⟩
  clear c1 c2 g1 hd
  go_wp2_with fail
  go_loopw [11] (fun i wr => ∃ k : Nat, k ≤ len ∧ i = .int .i64 k ∧ ∃ f r A T K R G, Gr wr w.heap.size n s f r ∧ Rg wr d n s A T K R G ∧ Sim n s f r A T K R G ∧ (0 ≤ R ∧ R ≤ 100) ∧ Chg (fun _ => False) w wr)
    (fun i _ => len - (intOf i).toNat)
  case atStart => exact ⟨0, by omega, rfl, _, _, _, _, _, _, _, g2, m2, S0, by omega, C2⟩
  case round =>
    obtain ⟨k, hk, rfl, f, r, A, T, K, R, G, hg, hm, hS, hR, hC⟩ := hrel
    by_cases hlt : k < len
    · obtain ⟨ad, rfl, hat⟩ := hx.at_ k hlt
      have hok := hx.ok k hlt
      have hat' := hat.chg hC (fun h => h)
      obtain ⟨b, o, sp⟩ := ad
      obtain rfl : sp = none := hat.spot
      have x0 := hat'.c0
      have x1 := hat'.c1
      have x2 := hat'.c2
      have x3 := hat'.c3
      have x4 := hat'.c4
      dsimp only at x0 x1 x2 x3 x4
      generalize xs k = x at *
      obtain ⟨xk, xst, xc, xm, xo⟩ := x
      have hk6 := hok.k
      have hms := hS.members
      dsimp only at x0 x1 x2 x3 x4 hk6
      have cA := Chg.alloc (Chg.refl (fun _ => False) wr) (.cells #[.int .u8 xk, .int .i64 xst, .bool xc, .int .u8 xm, .bool xo] 32)
      have gA := hg.chg cA (fun h => h)
      have mA := hm.chg cA (fun h => h)
      have CA := hC.trans cA
      by_cases h5 : xk % 6 = 5
      · have h5' : (xk % 6 == 5) = true := by simpa using h5
        clear h5 hg hm hC cA
        cases G
        · have l := hS.live rfl
          have hq := Sim.endG l h8
          have hS' := Sim.end l h8 hs
          have hz := l.nz (by omega)
          have hm2 := hS'.members
          have hm3 : (S8 (endF s r) != 0) = !decide (1 + cntB K (n + 1) ≤ R) := by
            cases hG : decide (1 + cntB K (n + 1) ≤ R)
            · rw [hG] at hS'
              have := (hS'.live rfl).nz (by omega)
              simpa using this
            · rw [hG] at hS'
              have := hS'.gone rfl
              simp [this]
          have HM := Lib.hid hm2
          have HM3 := Lib.hid hm3
          clear hq hm2 hm3 hms
          go_wp2_with fail
          refine (end_ok _ n s f r _ gA hz).mono ?_
          rintro e w3 ⟨rfl, g3, c3⟩
          have m3 := mA.chg c3 (by omega)
          go_wp2_with fail
          refine (rend_ok _ n s A T K R _ m3 hR).mono ?_
          rintro e w4 ⟨rfl, m4, c4⟩
          have g4 := g3.chg c4 (by omega)
          rw [HM.out, ← HM3.out]
          have C4 : Chg (fun _ => False) w w4 := play_chg CA c3 c4 (Nat.le_refl _) (by omega)
          clear c3 c4
          go_wp2_with fail
          refine (members_any _ n s _ _ _ g4).mono ?_
          rintro e w' ⟨rfl, rfl⟩
          go_wp2_with fail
          refine (rmembers_any _ n s _ _ _ _ _ _ m4).mono ?_
          rintro e w' ⟨rfl, rfl⟩
          rw [HM.out]
          go_wp2_with fail
          go_roundw
          case rel => exact ⟨k + 1, by omega, by go_num, _, _, _, _, _, _, _, g4, m4, hS', by omega, C4⟩
          case measure => simp [intOf]; omega
        · have hz := hS.gone rfl
          have HM := Lib.hid hms
          clear hms
          go_wp2_with fail
          refine (end_gone _ n s f r _ gA hz).mono ?_
          rintro e w3 ⟨rfl, rfl⟩
          go_wp2_with fail
          refine (rend_gone _ n s A T K R _ mA).mono ?_
          rintro e w4 ⟨rfl, rfl⟩
          go_wp2_with fail
          refine (members_any _ n s _ _ _ gA).mono ?_
          rintro e w' ⟨rfl, rfl⟩
          go_wp2_with fail
          refine (rmembers_any _ n s _ _ _ _ _ _ mA).mono ?_
          rintro e w' ⟨rfl, rfl⟩
          rw [HM.out]
          go_wp2_with fail
          go_roundw
          case rel => exact ⟨k + 1, by omega, by go_num, _, _, _, _, _, _, _, gA, mA, hS, hR, CA⟩
          case measure => simp [intOf]; omega
      · have h5' : (xk % 6 == 5) = false := by simpa using h5
        clear h5 cA gA mA CA
        cases xo
        · have cA := Chg.alloc (Chg.refl (fun _ => False) wr) (.cells #[.int .u8 xk, .int .i64 xst, .bool xc, .int .u8 xm, .bool false] 32)
          have gA := hg.chg cA (fun h => h)
          have mA := hm.chg cA (fun h => h)
          have CA := hC.trans cA
          have hcs := hS.heardC h8 hs xst
          have hS' := hS.heard h8 hs xst xc (xm)
          have hms' := hS'.members
          have hR' := hS'.refR (fun hG => by subst hG; unfold rheardR; rw [if_neg (by unfold rheardC; rw [if_pos rfl]; omega)]; exact hR)
          have HM := Lib.hid hms'
          have HC := Lib.hid hcs
          have lw := lt_of_block hg.blk
          have ld := lt_of_block hm.blk
          clear hms' hcs cA hC
          have hq := hok.s
          dsimp only at hq
          have HQ := Lib.hid hq
          clear hq
          have y1 : (wr.alloc (.cells #[.int .u8 xk, .int .i64 xst, .bool xc, .int .u8 xm, .bool false] 32)).cell? ⟨wr.heap.size, 1, none⟩ = some (.int .i64 xst) := by rw [World.cell?_alloc_at _ _ _ _ rfl]; rfl
          have y2 : (wr.alloc (.cells #[.int .u8 xk, .int .i64 xst, .bool xc, .int .u8 xm, .bool false] 32)).cell? ⟨wr.heap.size, 2, none⟩ = some (.bool xc) := by rw [World.cell?_alloc_at _ _ _ _ rfl]; rfl
          have y3 : (wr.alloc (.cells #[.int .u8 xk, .int .i64 xst, .bool xc, .int .u8 xm, .bool false] 32)).cell? ⟨wr.heap.size, 3, none⟩ = some (.int .u8 xm) := by rw [World.cell?_alloc_at _ _ _ _ rfl]; rfl
          clear hms
          go_wp2_with fail
          generalize (wr.alloc (.cells #[.int .u8 xk, .int .i64 xst, .bool xc, .int .u8 xm, .bool false] 32)) = W0 at *
          generalize hxb : wr.heap.size = xb at *
          have hxbw : xb ≠ w.heap.size := by omega
          have hxbd : xb ≠ d := by omega
          have HXB := Lib.hid hxb
          clear hxb lw ld
          go_region_held3 (fun W => W.cell? ⟨xb, 1, none⟩ = some (.int .i64 xst) ∧ W.cell? ⟨xb, 2, none⟩ = some (.bool xc) ∧ W.cell? ⟨xb, 3, none⟩ = some (.int .u8 xm))
            (first | exact ⟨y1, y2, y3⟩ | exact ⟨k3.cell y1 hxbw, k3.cell y2 hxbw, k3.cell y3 hxbw⟩ | exact ⟨k4.cell (k3.cell y1 hxbw) hxbd, k4.cell (k3.cell y2 hxbw) hxbd, k4.cell (k3.cell y3 hxbw) hxbd⟩)
            (first
              | (go_at_call 13; refine (heard_any _ n s f r xst xc (xm) _ (gA.chg (Chg.drew (Chg.refl (fun _ => False) _)) (fun h => h)) HQ.out).mono ?_; rintro e w3 ⟨rfl, g3, k3⟩)
              | (go_at_call 14; refine (rheard_any _ n s A T K R G xst xc (xm) _ ((mA.chg (Chg.drew (Chg.refl (fun _ => False) _)) (fun h => h)).chg k3 (by omega)) hR).mono ?_; rintro e w4 ⟨rfl, m4, k4⟩))
          have g4 := g3.chg k4 (by omega)
          have C4 : Chg (fun _ => False) w w4 := play_chg CA.drew k3 k4 (Nat.le_refl _) (by omega)
          clear k3 k4 y1 y2 y3
          rw [HC.out]
          go_wp2_with fail
          refine (members_any _ n s _ _ _ g4).mono ?_
          rintro e w' ⟨rfl, rfl⟩
          go_wp2_with fail
          refine (rmembers_any _ n s _ _ _ _ _ _ m4).mono ?_
          rintro e w' ⟨rfl, rfl⟩
          rw [HM.out]
          go_wp2_with fail
          go_roundw
          case rel => exact ⟨k + 1, by omega, by go_num, _, _, _, _, _, _, _, g4, m4, hS', hR', C4⟩
          case measure => simp [intOf]; omega
        · have mx := hm.chg (Chg.alloc (Chg.refl (fun _ => False) wr) (.cells #[.int .u8 xk, .int .i64 xst, .bool xc, .int .u8 xm, .bool true] 32)) (fun h => h)
          have cA := Chg.alloc (Chg.refl (fun _ => False) wr) (.cells #[.int .u8 xk, .int .i64 xst, .bool xc, .int .u8 (S8 f), .bool true] 32)
          have gA := hg.chg cA (fun h => h)
          have mA := hm.chg cA (fun h => h)
          have CA := hC.trans cA
          have hcs := hS.heardC h8 hs xst
          have hS' := hS.heard h8 hs xst xc (S8 f)
          have hms' := hS'.members
          have hR' := hS'.refR (fun hG => by subst hG; unfold rheardR; rw [if_neg (by unfold rheardC; rw [if_pos rfl]; omega)]; exact hR)
          have HM := Lib.hid hms'
          have HC := Lib.hid hcs
          have lw := lt_of_block hg.blk
          have ld := lt_of_block hm.blk
          clear hms' hcs cA hC
          have hq := hok.s
          dsimp only at hq
          have HQ := Lib.hid hq
          clear hq
          have y1 : (wr.alloc (.cells #[.int .u8 xk, .int .i64 xst, .bool xc, .int .u8 (S8 f), .bool true] 32)).cell? ⟨wr.heap.size, 1, none⟩ = some (.int .i64 xst) := by rw [World.cell?_alloc_at _ _ _ _ rfl]; rfl
          have y2 : (wr.alloc (.cells #[.int .u8 xk, .int .i64 xst, .bool xc, .int .u8 (S8 f), .bool true] 32)).cell? ⟨wr.heap.size, 2, none⟩ = some (.bool xc) := by rw [World.cell?_alloc_at _ _ _ _ rfl]; rfl
          have y3 : (wr.alloc (.cells #[.int .u8 xk, .int .i64 xst, .bool xc, .int .u8 (S8 f), .bool true] 32)).cell? ⟨wr.heap.size, 3, none⟩ = some (.int .u8 (S8 f)) := by rw [World.cell?_alloc_at _ _ _ _ rfl]; rfl
          have HMS := Lib.hid hms
          have lw' := lt_of_block mx.blk
          clear hms
          go_wp2_with fail
          refine (rmembers_any _ n s _ _ _ _ _ _ mx).mono ?_
          rintro e w' ⟨rfl, rfl⟩
          rw [HMS.out]
          go_wp2_with fail
          generalize (wr.alloc (.cells #[.int .u8 xk, .int .i64 xst, .bool xc, .int .u8 (S8 f), .bool true] 32)) = W0 at *
          generalize hxb : wr.heap.size = xb at *
          have hxbw : xb ≠ w.heap.size := by omega
          have hxbd : xb ≠ d := by omega
          have HXB := Lib.hid hxb
          clear hxb lw ld
          go_region_held3 (fun W => W.cell? ⟨xb, 1, none⟩ = some (.int .i64 xst) ∧ W.cell? ⟨xb, 2, none⟩ = some (.bool xc) ∧ W.cell? ⟨xb, 3, none⟩ = some (.int .u8 (S8 f)))
            (first | exact ⟨y1, y2, y3⟩ | exact ⟨k3.cell y1 hxbw, k3.cell y2 hxbw, k3.cell y3 hxbw⟩ | exact ⟨k4.cell (k3.cell y1 hxbw) hxbd, k4.cell (k3.cell y2 hxbw) hxbd, k4.cell (k3.cell y3 hxbw) hxbd⟩)
            (first
              | (go_at_call 13; refine (heard_any _ n s f r xst xc (S8 f) _ (gA.chg (Chg.drew (Chg.refl (fun _ => False) _)) (fun h => h)) HQ.out).mono ?_; rintro e w3 ⟨rfl, g3, k3⟩)
              | (go_at_call 14; refine (rheard_any _ n s A T K R G xst xc (S8 f) _ ((mA.chg (Chg.drew (Chg.refl (fun _ => False) _)) (fun h => h)).chg k3 (by omega)) hR).mono ?_; rintro e w4 ⟨rfl, m4, k4⟩))
          have g4 := g3.chg k4 (by omega)
          have C4 : Chg (fun _ => False) w w4 := play_chg CA.drew k3 k4 (Nat.le_refl _) (by omega)
          clear k3 k4 y1 y2 y3
          rw [HC.out]
          go_wp2_with fail
          refine (members_any _ n s _ _ _ g4).mono ?_
          rintro e w' ⟨rfl, rfl⟩
          go_wp2_with fail
          refine (rmembers_any _ n s _ _ _ _ _ _ m4).mono ?_
          rintro e w' ⟨rfl, rfl⟩
          rw [HM.out]
          go_wp2_with fail
          go_roundw
          case rel => exact ⟨k + 1, by omega, by go_num, _, _, _, _, _, _, _, g4, m4, hS', hR', C4⟩
          case measure => simp [intOf]; omega
    · go_wp2_with fail
      refine (lives_any _).mono ?_
      rintro e w' ⟨rfl, hL⟩
      go_wp2_with fail
      go_ret
      exact ⟨rfl, hC.trans hL⟩
end Go.Proofs.Ytpkeclkfgfkddaa
