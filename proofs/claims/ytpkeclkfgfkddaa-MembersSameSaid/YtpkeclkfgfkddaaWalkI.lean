/- The code's group, function by function: what each call comes to. -/
import Derived.Test.YtpkeclkfgfkddaaRows
import Derived.Test.YtpkeclkfgfkddaaBase
import Derived.Test.YtpkeclkfgfkddaaPlain
import Derived.Lib.Hide
import Derived.BigQuiet
import Derived.Deep.QuietTactic
namespace Go.Proofs.Ytpkeclkfgfkddaa
open Go.RowKit
set_option linter.unusedVariables false

def gcells (n s : Nat) (f : Nat → Bool) (r : Nat → Int) : Array Value :=
  #[.int .i64 n, .int .i64 s, .int .u8 (S8 f), .int .u8 (r 0), .int .u8 (r 1), .int .u8 (r 2), .int .u8 (r 3), .int .u8 (r 4), .int .u8 (r 5), .int .u8 (r 6), .int .u8 (r 7)]
/-- Block b is a group. -/
structure Gr (w : World) (b : Nat) (n s : Nat) (f : Nat → Bool) (r : Nat → Int) : Prop where
  blk : w.heap[b]? = some (.cells (gcells n s f r) 50 (0, 0))
  n1 : 1 ≤ n
  n8 : n ≤ 8
  s1 : s < n
  row : ∀ j, 0 ≤ r j ∧ r j ≤ 3
theorem Gr.c0 {w : World} {b n s : Nat} {f : Nat → Bool} {r : Nat → Int} (h : Gr w b n s f r) : w.cell? ⟨b, 0, none⟩ = some (.int .i64 n) := by rw [blk_cell h.blk]; rfl
theorem Gr.c1 {w : World} {b n s : Nat} {f : Nat → Bool} {r : Nat → Int} (h : Gr w b n s f r) : w.cell? ⟨b, 1, none⟩ = some (.int .i64 s) := by rw [blk_cell h.blk]; rfl
theorem Gr.c2 {w : World} {b n s : Nat} {f : Nat → Bool} {r : Nat → Int} (h : Gr w b n s f r) : w.cell? ⟨b, 2, none⟩ = some (.int .u8 (S8 f)) := by rw [blk_cell h.blk]; rfl
theorem Gr.c3 {w : World} {b n s : Nat} {f : Nat → Bool} {r : Nat → Int} (h : Gr w b n s f r) (k : Nat) (hk : k < 8) : w.cell? ⟨b, 3 + k, none⟩ = some (.int .u8 (r k)) := by
  rw [blk_cell h.blk]
  rcases eight hk with rfl | rfl | rfl | rfl | rfl | rfl | rfl | rfl <;> rfl
theorem Gr.set {w : World} {b n s : Nat} {f : Nat → Bool} {r : Nat → Int} (h : Gr w b n s f r) (k : Nat) (hk : k < 8) (x : Int) (hx : 0 ≤ x ∧ x ≤ 3) : Gr (w.setCell ⟨b, 3 + k, none⟩ (.int .u8 x)) b n s f (upd r k x) := by
  refine ⟨?_, h.n1, h.n8, h.s1, fun j => ?_⟩
  · rw [blk_set h.blk]
    rcases eight hk with rfl | rfl | rfl | rfl | rfl | rfl | rfl | rfl <;> rfl
  · unfold upd; split
    · exact hx
    · exact h.row j
theorem Gr.chg {w w1 : World} {S : Nat → Prop} {b n s : Nat} {f : Nat → Bool} {r : Nat → Int} (h : Gr w b n s f r) (hc : Chg S w w1) (hb : ¬ S b) : Gr w1 b n s f r := ⟨hc.heap h.blk hb, h.n1, h.n8, h.s1, h.row⟩

theorem there_any (b : Nat) (n : Nat) (w : World) (hn : 1 ≤ n) (hc : w.cell? ⟨b, 0, none⟩ = some (.int .i64 n)) :
    Calls Try.prog 16 #[.pointer (some ⟨b, 0, none⟩)] w fun e w' => e = .returned (.bool true) ∧ w = w' := by
  go_enter Try.func16, Try.ntmps16
  go_wp2
  go_ret
  exact ⟨by have : decide (0 < n) = true := by simp; omega
            show Ending.returned (.bool (decide (0 < n))) = _
            rw [this], rfl⟩
theorem there_nil (w : World) :
    Calls Try.prog 16 #[.pointer none] w fun e w' => e = .returned (.bool false) ∧ w = w' := by
  go_enter Try.func16, Try.ntmps16
  go_wp2
  go_ret
  exact ⟨rfl, rfl⟩

theorem has_any (f : Nat → Bool) (k : Nat) (w : World) (hk : k < 8) :
    Calls Try.prog 18 #[.int .u8 (S8 f), .int .i64 k] w fun e w' => e = .returned (.bool (f k)) ∧ w = w' := by
  have h1 := S8_range f
  have e := has_S8 f k hk
  have E := Lib.hid e
  clear e
  go_enter Try.func18, Try.ntmps18
  go_wp2
  go_ret
  exact ⟨by rw [← E.out]; rfl, rfl⟩
theorem with_any (x : Int) (k : Nat) (w : World) (hx : 0 ≤ x ∧ x ≤ 255) (hk : k < 8) :
    Calls Try.prog 17 #[.int .u8 x, .int .i64 k] w fun e w' => e = .returned (.int .u8 (bits BinOp.or IntKind.u8 x (2 ^ k % 256))) ∧ w = w' := by
  go_enter Try.func17, Try.ntmps17
  go_wp2
  go_ret
  exact ⟨rfl, rfl⟩

theorem heard_gone (b n s : Nat) (f : Nat → Bool) (r : Nat → Int) (st : Int) (came : Bool) (mem : Int) (w : World) (h : Gr w b n s f r) (hz : S8 f = 0) :
   Calls Try.prog 13 #[.pointer (some ⟨b, 0, none⟩), .int .i64 st, .bool came, .int .u8 mem] w fun e w' => e = .returned (.int .i64 11) ∧ w = w' := by
  have h0 := h.c0
  have h2 := h.c2
  have n1 := h.n1
  have hz' : (S8 f == 0) = true := by simpa using hz
  clear hz
  go_enter Try.func13, Try.ntmps13
  go_wp2_with (go_at_call 16; refine (there_any b n _ n1 h0).mono ?_; rintro e w' ⟨rfl, rfl⟩)
  go_ret
  exact ⟨rfl, rfl⟩
theorem heard_arg (b n s : Nat) (f : Nat → Bool) (r : Nat → Int) (st : Int) (came : Bool) (mem : Int) (w : World) (h : Gr w b n s f r) (hst : -9223372036854775808 ≤ st ∧ st ≤ 9223372036854775807) (hz : S8 f ≠ 0)
   (ha : st < 1 ∨ (n : Int) < st ∨ st = (s : Int) + 1) :
   Calls Try.prog 13 #[.pointer (some ⟨b, 0, none⟩), .int .i64 st, .bool came, .int .u8 mem] w fun e w' => e = .returned (.int .i64 1) ∧ w = w' := by
  have h0 := h.c0
  have h1 := h.c1
  have h2 := h.c2
  have n1 := h.n1
  have n8 := h.n8
  have s1 := h.s1
  have hz' : (S8 f == 0) = false := by simpa using hz
  clear hz
  have hcase : (0 ≤ wrap64 (st - 1) ∧ (n : Int) ≤ wrap64 (st - 1)) ∨ (-9223372036854775807 ≤ st ∧ st < 1) ∨ ((n : Int) < st ∧ st ≤ 9223372036854775807) ∨ st = (s : Int) + 1 := by
    unfold wrap64; omega
  clear ha hst
  rcases hcase with ⟨ha, hb⟩ | ⟨ha, hb⟩ | ⟨ha, hb⟩ | rfl
  all_goals go_enter Try.func13, Try.ntmps13
  all_goals go_wp2_with (go_at_call 16; refine (there_any b n _ n1 h0).mono ?_; rintro e w' ⟨rfl, rfl⟩)
  all_goals go_ret
  all_goals exact ⟨rfl, rfl⟩
theorem heard_told (b n s : Nat) (f : Nat → Bool) (r : Nat → Int) (k : Nat) (came : Bool) (mem : Int) (w : World) (h : Gr w b n s f r) (hz : S8 f ≠ 0)
   (hk : k < n) (hks : k ≠ s) (hr : r k ≠ 0) :
   Calls Try.prog 13 #[.pointer (some ⟨b, 0, none⟩), .int .i64 (k + 1), .bool came, .int .u8 mem] w fun e w' => e = .returned (.int .i64 11) ∧ w = w' := by
  have h0 := h.c0
  have h1 := h.c1
  have h2 := h.c2
  have n1 := h.n1
  have n8 := h.n8
  have s1 := h.s1
  have h3 := h.c3 k (by omega)
  have hz' : (S8 f == 0) = false := by simpa using hz
  have hr' : (r k != 0) = true := by simpa using hr
  clear hz hr
  have hks' : ((k : Int) == s) = false := by simp; omega
  go_enter Try.func13, Try.ntmps13
  go_wp2_with (go_at_call 16; refine (there_any b n _ n1 h0).mono ?_; rintro e w' ⟨rfl, rfl⟩)
  go_ret
  exact ⟨rfl, rfl⟩
set_option maxHeartbeats 400000 in
theorem heard_ok (b n s : Nat) (f : Nat → Bool) (r : Nat → Int) (k : Nat) (came : Bool) (mem : Int) (w : World) (h : Gr w b n s f r) (hz : S8 f ≠ 0)
   (hk : k < n) (hks : k ≠ s) (hr : r k = 0) :
   Calls Try.prog 13 #[.pointer (some ⟨b, 0, none⟩), .int .i64 (k + 1), .bool came, .int .u8 mem] w fun e w' => e = .returned (.int .i64 0) ∧
     w' = w.setCell ⟨b, 3 + k, none⟩ (.int .u8 (heardV f k came mem)) := by
  have h0 := h.c0
  have h1 := h.c1
  have h2 := h.c2
  have n1 := h.n1
  have n8 := h.n8
  have s1 := h.s1
  have h3 := h.c3 k (by omega)
  have h4 : w.frozen? ⟨b, 3 + k, none⟩ = false := blk_free h.blk _
  have hz' : (S8 f == 0) = false := by simpa using hz
  have hr' : (r k != 0) = false := by simpa using hr
  clear hz
  have hks' : ((k : Int) == s) = false := by simp; omega
  rw [hr] at h3
  clear hr
  have hv : (came = false ∧ heardV f k came mem = 1) ∨ (came = true ∧ f k = false ∧ heardV f k came mem = 1) ∨ (came = true ∧ f k = true ∧ (mem == S8 f) = true ∧ heardV f k came mem = 2) ∨ (came = true ∧ f k = true ∧ (mem == S8 f) = false ∧ heardV f k came mem = 3) := by
    unfold heardV
    cases came <;> cases f k <;> by_cases hm : mem = S8 f <;> simp [hm]
  rcases hv with ⟨rfl, hv⟩ | ⟨rfl, hf, hv⟩ | ⟨rfl, hf, hm, hv⟩ | ⟨rfl, hf, hm, hv⟩
  all_goals rw [hv]
  all_goals have HV := Lib.hid hv
  all_goals clear hv
  all_goals go_enter Try.func13, Try.ntmps13
  all_goals go_wp2_with (first
    | (go_at_call 16; refine (there_any b n _ n1 h0).mono ?_; rintro e w' ⟨rfl, rfl⟩)
    | (go_at_call 18; refine (has_any f k _ (by omega)).mono ?_; rintro e w' ⟨rfl, rfl⟩))
  all_goals go_ret
  all_goals exact ⟨rfl, rfl⟩
theorem heard_any (b n s : Nat) (f : Nat → Bool) (r : Nat → Int) (st : Int) (came : Bool) (mem : Int) (w : World) (h : Gr w b n s f r) (hst : -9223372036854775808 ≤ st ∧ st ≤ 9223372036854775807) :
   Calls Try.prog 13 #[.pointer (some ⟨b, 0, none⟩), .int .i64 st, .bool came, .int .u8 mem] w fun e w' =>
     e = .returned (.int .i64 (heardC n s f r st)) ∧ Gr w' b n s f (heardR n s f r st came mem) ∧ Chg (· = b) w w' := by
  by_cases hz : S8 f = 0
  · have e : heardC n s f r st = 11 := by unfold heardC; rw [if_pos hz]
    refine (heard_gone b n s f r st came mem w h hz).mono ?_
    rintro e w' ⟨rfl, rfl⟩
    exact ⟨by rw [‹heardC n s f r st = 11›], by unfold heardR; rw [if_neg (by omega)]; exact h, Chg.refl _ _⟩
  · by_cases ha : st < 1 ∨ (n : Int) < st ∨ st = (s : Int) + 1
    · have e : heardC n s f r st = 1 := by unfold heardC; rw [if_neg hz, if_pos ha]
      refine (heard_arg b n s f r st came mem w h hst hz ha).mono ?_
      rintro e w' ⟨rfl, rfl⟩
      exact ⟨by rw [‹heardC n s f r st = 1›], by unfold heardR; rw [if_neg (by omega)]; exact h, Chg.refl _ _⟩
    · obtain ⟨k, rfl⟩ : ∃ k : Nat, st = (k : Int) + 1 := ⟨(st - 1).toNat, by omega⟩
      have ek : ((k : Int) + 1 - 1).toNat = k := by omega
      have hkn : k < n := by omega
      have hks : k ≠ s := by omega
      by_cases hr : r k = 0
      · have e : heardC n s f r (k + 1) = 0 := by unfold heardC; rw [if_neg hz, if_neg ha, ek, if_neg (by simp [hr])]
        refine (heard_ok b n s f r k came mem w h hz hkn hks hr).mono ?_
        rintro e w' ⟨rfl, rfl⟩
        refine ⟨by rw [‹heardC n s f r (k + 1) = 0›], ?_, (Chg.refl _ _).setCell _ _ (.inl rfl)⟩
        unfold heardR
        rw [if_pos ‹heardC n s f r (k + 1) = 0›, ek]
        exact h.set k (by have := h.n8; omega) _ (by unfold heardV; split; omega; split <;> omega)
      · have e : heardC n s f r (k + 1) = 11 := by unfold heardC; rw [if_neg hz, if_neg ha, ek, if_pos hr]
        refine (heard_told b n s f r k came mem w h hz hkn hks hr).mono ?_
        rintro e w' ⟨rfl, rfl⟩
        exact ⟨by rw [‹heardC n s f r (k + 1) = 11›], by unfold heardR; rw [if_neg (by omega)]; exact h, Chg.refl _ _⟩
end Go.Proofs.Ytpkeclkfgfkddaa
