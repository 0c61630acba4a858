/- 'lives': the chapter's two groups. -/
import Derived.Test.YtpkeclkfgfkddaaWalkE
namespace Go.Proofs.Ytpkeclkfgfkddaa
open Go.RowKit
set_option linter.unusedVariables false

theorem heard_v {b n s : Nat} {f : Nat → Bool} {r : Nat → Int} {w : World} (h : Gr w b n s f r) (st : Int) (came : Bool) (mem : Int) (hst : -9223372036854775808 ≤ st ∧ st ≤ 9223372036854775807) (c : Int) (hc : heardC n s f r st = c) :
   Calls Try.prog 13 #[.pointer (some ⟨b, 0, none⟩), .int .i64 st, .bool came, .int .u8 mem] w fun e w' =>
     e = .returned (.int .i64 c) ∧ Gr w' b n s f (heardR n s f r st came mem) ∧ Chg (· = b) w w' :=
  (heard_any b n s f r st came mem w h hst).mono fun e w' ⟨h1, h2, h3⟩ => ⟨by rw [h1, hc], h2, h3⟩
theorem end_v {b n s : Nat} {f : Nat → Bool} {r : Nat → Int} {w : World} (h : Gr w b n s f r) (hz : S8 f ≠ 0) (x : Int) (y : Bool) (hx : S8 (endF s r) = x) (hy : (S8 (endF s r) != 0) = y) :
   Calls Try.prog 10 #[.pointer (some ⟨b, 0, none⟩)] w fun e w' =>
     e = .returned (.tuple #[.int .u8 x, .bool y, .int .i64 0]) ∧ Gr w' b n s (endF s r) (fun _ => 0) ∧ Chg (· = b) w w' :=
  (end_ok b n s f r w h hz).mono fun e w' ⟨h1, h2, h3⟩ => ⟨by rw [h1, hy, hx], h2, h3⟩
abbrev f4 : Nat → Bool := fun j => decide (j < 4)
abbrev r4 : Nat → Int := fun _ => 0
set_option maxHeartbeats 2000000 in
theorem lives_any (w : World) : Calls Try.prog 7 #[] w fun e w' => e = .returned (.bool true) ∧ Chg (fun _ => False) w w' := by
  go_enter Try.func7, Try.ntmps7
  go_wp2_with fail
  refine (new_ok 4 0 w (by omega) (by omega) (by omega)).mono ?_
  rintro e w1 ⟨rfl, g1, c1⟩
  go_wp2_with fail
  refine (new_ok 4 0 w1 (by omega) (by omega) (by omega)).mono ?_
  rintro e w2 ⟨rfl, h2, c2⟩
  have hne : w1.heap.size ≠ w.heap.size := by have := lt_of_block g1.blk; omega
  have g2 := g1.chg c2 (fun h => h)
  have hB : w.heap.size ≤ w1.heap.size := c1.size
  generalize hb : w.heap.size = b at *
  generalize hd : w1.heap.size = d at *
  have C2 : Chg (fun k => k = b ∨ k = d) w w2 := (c1.mono (fun _ _ h => h.elim)).trans (c2.mono (fun _ _ h => h.elim))
  have hbw : w.heap.size ≤ b := by omega
  have hdw : w.heap.size ≤ d := by omega
  clear g1 c1 c2
  go_wp2_with fail
  refine (heard_v g2 2 true 15 (by omega) 0 (by decide)).mono ?_
  rintro e w3 ⟨rfl, g3, k3⟩
  have h3 := h2.chg k3 hne
  have C3 := C2.trans (k3.mono (fun k _ h => by first | exact .inl h | exact .inr h))
  clear g2 h2 k3 C2
  go_wp2_with fail
  refine (heard_v g3 3 true 15 (by omega) 0 (by decide)).mono ?_
  rintro e w4 ⟨rfl, g4, k4⟩
  have h4 := h3.chg k4 hne
  have C4 := C3.trans (k4.mono (fun k _ h => by first | exact .inl h | exact .inr h))
  clear g3 h3 k4 C3
  go_wp2_with fail
  refine (heard_v g4 4 false 0 (by omega) 0 (by decide)).mono ?_
  rintro e w5 ⟨rfl, g5, k5⟩
  have h5 := h4.chg k5 hne
  have C5 := C4.trans (k5.mono (fun k _ h => by first | exact .inl h | exact .inr h))
  clear g4 h4 k5 C4
  go_wp2_with fail
  refine (heard_v g5 4 false 0 (by omega) 11 (by decide)).mono ?_
  rintro e w6 ⟨rfl, g6, k6⟩
  have h6 := h5.chg k6 hne
  have C6 := C5.trans (k6.mono (fun k _ h => by first | exact .inl h | exact .inr h))
  clear g5 h5 k6 C5
  go_wp2_with fail
  refine (heard_v g6 1 true 15 (by omega) 1 (by decide)).mono ?_
  rintro e w7 ⟨rfl, g7, k7⟩
  have h7 := h6.chg k7 hne
  have C7 := C6.trans (k7.mono (fun k _ h => by first | exact .inl h | exact .inr h))
  clear g6 h6 k7 C6
  go_wp2_with fail
  refine (end_v g7 (by decide) 7 true (by decide) (by decide)).mono ?_
  rintro e w8 ⟨rfl, g8, k8⟩
  have h8 := h7.chg k8 hne
  have C8 := C7.trans (k8.mono (fun k _ h => by first | exact .inl h | exact .inr h))
  clear g7 h7 k8 C7
  go_wp2_with fail
  refine (heard_v h8 2 true 3 (by omega) 0 (by decide)).mono ?_
  rintro e w9 ⟨rfl, h9, k9⟩
  have g9 := g8.chg k9 hne.symm
  have C9 := C8.trans (k9.mono (fun k _ h => by first | exact .inl h | exact .inr h))
  clear h8 g8 k9 C8
  go_wp2_with fail
  refine (heard_v h9 3 true 5 (by omega) 0 (by decide)).mono ?_
  rintro e w10 ⟨rfl, h10, k10⟩
  have g10 := g9.chg k10 hne.symm
  have C10 := C9.trans (k10.mono (fun k _ h => by first | exact .inl h | exact .inr h))
  clear h9 g9 k10 C9
  go_wp2_with fail
  refine (end_v h10 (by decide) 0 false (by decide) (by decide)).mono ?_
  rintro e w11 ⟨rfl, h11, k11⟩
  have g11 := g10.chg k11 hne.symm
  have C11 := C10.trans (k11.mono (fun k _ h => by first | exact .inl h | exact .inr h))
  clear h10 g10 k11 C10
  go_wp2_with fail
  refine (end_gone _ _ _ _ _ _ h11 (by decide)).mono ?_
  rintro e w' ⟨rfl, rfl⟩
  go_wp2_with fail
  refine (heard_nil _ _ _ _).mono ?_
  rintro e w' ⟨rfl, rfl⟩
  go_wp2_with fail
  refine (members_nil _).mono ?_
  rintro e w' ⟨rfl, rfl⟩
  go_wp2_with fail
  go_ret
  exact ⟨rfl, ⟨C11.os, C11.tape, C11.output, C11.size, fun k hk _ => C11.block k hk (by rintro (h | h) <;> omega)⟩⟩
end Go.Proofs.Ytpkeclkfgfkddaa
