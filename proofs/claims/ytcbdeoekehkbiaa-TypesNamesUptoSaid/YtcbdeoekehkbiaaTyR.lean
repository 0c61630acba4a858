/- The rules of types: the closures. -/
import Derived.Test.YtcbdeoekehkbiaaOfRules
namespace Go.Proofs.Ytcbdeoekehkbiaa
open Go.RowKit
set_option linter.unusedVariables false
set_option linter.unusedSimpArgs false

/-- A list of types, read. -/
def TyR (w : World) (l : List Int) (v : Value) : Prop := ∃ g o cap, v = .slice (some ⟨g, o, none⟩) l.length cap ∧ l.length ≤ cap ∧ ∀ i x, l[i]? = some x → w.cell? ⟨g, o + i, none⟩ = some (.int .u8 x)
theorem TyR.ext {w w' : World} {l : List Int} {v : Value} (h : TyR w l v) (he : Ext w w') : TyR w' l v := by
  obtain ⟨g, o, cap, rfl, hc, hr⟩ := h
  exact ⟨g, o, cap, rfl, hc, fun i x hx => he.cell (hr i x hx)⟩
def RetIx (b : Bool) (w : World) (e : Ending) (w' : World) : Prop := (∃ n : Int, e = .returned (.int .i64 n) ∧ (0 ≤ n ↔ b = true)) ∧ Ext w w'
theorem any_at {l : List Int} {k : Nat} {y : Int} {f : Int → Bool} (h : l[k]? = some y) : (l.drop k).any f = (f y || (l.drop (k + 1)).any f) := by
  obtain ⟨hk, rfl⟩ := List.getElem?_eq_some_iff.1 h
  rw [List.drop_eq_getElem_cons hk]
  rfl
theorem eachP_one (y o : Int) (B : Nat) (w : World) (hb : w.cell? ⟨B, 0, none⟩ = some (.int .u8 o)) : Calls Try.prog 88 #[.int .u8 y, .pointer (some ⟨B, 0, none⟩)] w fun e w' => e = .returned (.bool (!decide (y = o))) ∧ w' = w := by
  go_enter Try.func88, Try.ntmps88
  go_wp2_with fail
  go_ret
  exact ⟨by simp [bne, Bool.beq_eq_decide_eq], rfl⟩
theorem alikeP_one (y x0 : Int) (B g o n cap : Nat) (w : World) (hb : w.cell? ⟨B, 0, none⟩ = some (.slice (some ⟨g, o, none⟩) n cap)) (hn : 0 < n) (hx : w.cell? ⟨g, o, none⟩ = some (.int .u8 x0)) :
    Calls Try.prog 89 #[.int .u8 y, .pointer (some ⟨B, 0, none⟩)] w fun e w' => e = .returned (.bool (!decide (y = x0) || decide (y = 0))) ∧ w' = w := by
  have q : (0 : Int) < (n : Int) := by omega
  by_cases h1 : y = x0
  · subst h1
    by_cases h2 : y = 0
    · subst h2
      go_enter Try.func89, Try.ntmps89
      go_wp2_with fail
      go_ret
      exact ⟨by simp, rfl⟩
    · have b2 : (y == 0) = false := by simpa using h2
      go_enter Try.func89, Try.ntmps89
      go_wp2_with fail
      go_ret
      exact ⟨by simp [h2], rfl⟩
  · have b1 : (y != x0) = true := by simpa using h1
    have b1' : (y == x0) = false := by simpa using h1
    go_enter Try.func89, Try.ntmps89
    go_wp2_with fail
    go_ret
    exact ⟨by simp [h1], rfl⟩
set_option maxRecDepth 100000 in
set_option maxHeartbeats 1000000 in
theorem idxE_any (l : List Int) (v : Value) (B : Nat) (o' : Int) (w : World) (h : TyR w l v) (hn : l.length ≤ 100000) (hb : w.cell? ⟨B, 0, none⟩ = some (.int .u8 o')) :
    Calls Try.prog 96 #[v, .func (.func 88) #[] #[.pointer (some ⟨B, 0, none⟩)]] w (RetIx (l.any fun t => !decide (t = o')) w) := by
  obtain ⟨g, o, cap, rfl, _, hr⟩ := h
  have hp := fun y (_ : Nat) => eachP_one y o' B w hb
  have HP := Lib.hid hp
  clear hp
  go_enter Try.func96, Try.ntmps96
  go_wp2_with fail
  go_loop [8] (fun i => ∃ k : Nat, k ≤ l.length ∧ i = .int .i64 k ∧ (l.any fun t => !decide (t = o')) = ((l.drop k).any fun t => !decide (t = o'))) (fun i => l.length - (intOf i).toNat)
  case atStart => exact ⟨0, Nat.zero_le _, rfl, rfl⟩
  case round =>
    obtain ⟨k, hk, rfl, hE⟩ := hrel
    have HE := Lib.hid hE
    clear hE
    by_cases hlt : k < l.length
    · obtain ⟨y, hy⟩ : ∃ y, l[k]? = some y := ⟨_, List.getElem?_eq_getElem hlt⟩
      have c0 := hr k y hy
      have q1 : (k : Int) < (l.length : Int) := by omega
      have HS := Lib.hid (any_at (f := fun t => !decide (t = o')) hy)
      clear hy hr
      go_wp2_with fail
      refine (HP.out y 0).mono ?_
      rintro e w1 ⟨rfl, rfl⟩
      cases hb : (fun t => !decide (t = o')) y
      · have H2 : Hid ((l.any fun t => !decide (t = o')) = ((l.drop (k + 1)).any fun t => !decide (t = o'))) := by
          show _ = _
          rw [HE.out, HS.out]
          simp only [hb, Bool.false_or]
        go_wp2_with fail
        go_round
        case rel => exact ⟨k + 1, by omega, by go_num, H2.out⟩
        case measure => simp [intOf]; omega
      · have H2 : Hid ((l.any fun t => !decide (t = o')) = true) := by
          show _ = _
          rw [HE.out, HS.out]
          simp only [hb, Bool.true_or]
        go_wp2_with fail
        go_ret
        exact ⟨⟨k, rfl, by rw [H2.out]; simp⟩, Chg.refl _ _⟩
    · obtain rfl : k = l.length := by omega
      have H2 := Lib.hid (HE.out.trans (show ((l.drop l.length).any fun t => !decide (t = o')) = false by rw [List.drop_length]; rfl))
      go_wp2_with fail
      go_ret
      exact ⟨⟨(-1 : Int), rfl, by rw [H2.out]; exact ⟨fun h => absurd h (by decide), fun h => by cases h⟩⟩, Chg.refl _ _⟩
theorem hasE_any (l : List Int) (v : Value) (B : Nat) (o' : Int) (w : World) (h : TyR w l v) (hn : l.length ≤ 100000) (hb : w.cell? ⟨B, 0, none⟩ = some (.int .u8 o')) :
    Calls Try.prog 87 #[v, .func (.func 88) #[] #[.pointer (some ⟨B, 0, none⟩)]] w fun e w' => e = .returned (.bool (l.any fun t => !decide (t = o'))) ∧ Ext w w' := by
  have hi := idxE_any l v B o' w h hn hb
  obtain ⟨g, o, cap, rfl, _⟩ := h
  have HI := Lib.hid hi
  clear hi
  generalize (l.any fun t => !decide (t = o')) = b at *
  go_enter Try.func87, Try.ntmps87
  go_wp2_with fail
  refine HI.out.mono ?_
  rintro e w1 ⟨⟨n, rfl, hn⟩, hE⟩
  have HN := Lib.hid hn
  clear hn
  go_wp2_with fail
  go_ret
  exact ⟨congrArg (fun b => Ending.returned (Value.bool b)) (Bool.eq_iff_iff.2 (decide_eq_true_iff.trans HN.out)), hE⟩
set_option maxRecDepth 100000 in
set_option maxHeartbeats 1000000 in
theorem idxA_any (l : List Int) (v : Value) (B : Nat) (x0 : Int) (vl : Value) (w : World) (h : TyR w l v) (hn : l.length ≤ 100000) (hb : w.cell? ⟨B, 0, none⟩ = some vl) (hx : ∃ g o n cap, vl = .slice (some ⟨g, o, none⟩) n cap ∧ 0 < n ∧ n ≤ 100000 ∧ w.cell? ⟨g, o, none⟩ = some (.int .u8 x0)) :
    Calls Try.prog 96 #[v, .func (.func 89) #[] #[.pointer (some ⟨B, 0, none⟩)]] w (RetIx (l.any fun t => !decide (t = x0) || decide (t = 0)) w) := by
  obtain ⟨g, o, cap, rfl, _, hr⟩ := h
  obtain ⟨g', o'', n', cap', rfl, hn0, _, hx0⟩ := hx
  have hp := fun y (_ : Nat) => alikeP_one y x0 B g' o'' n' cap' w hb hn0 hx0
  have HP := Lib.hid hp
  clear hp
  go_enter Try.func96, Try.ntmps96
  go_wp2_with fail
  go_loop [8] (fun i => ∃ k : Nat, k ≤ l.length ∧ i = .int .i64 k ∧ (l.any fun t => !decide (t = x0) || decide (t = 0)) = ((l.drop k).any fun t => !decide (t = x0) || decide (t = 0))) (fun i => l.length - (intOf i).toNat)
  case atStart => exact ⟨0, Nat.zero_le _, rfl, rfl⟩
  case round =>
    obtain ⟨k, hk, rfl, hE⟩ := hrel
    have HE := Lib.hid hE
    clear hE
    by_cases hlt : k < l.length
    · obtain ⟨y, hy⟩ : ∃ y, l[k]? = some y := ⟨_, List.getElem?_eq_getElem hlt⟩
      have c0 := hr k y hy
      have q1 : (k : Int) < (l.length : Int) := by omega
      have HS := Lib.hid (any_at (f := fun t => !decide (t = x0) || decide (t = 0)) hy)
      clear hy hr
      go_wp2_with fail
      refine (HP.out y 0).mono ?_
      rintro e w1 ⟨rfl, rfl⟩
      cases hb : (fun t => !decide (t = x0) || decide (t = 0)) y
      · have H2 : Hid ((l.any fun t => !decide (t = x0) || decide (t = 0)) = ((l.drop (k + 1)).any fun t => !decide (t = x0) || decide (t = 0))) := by
          show _ = _
          rw [HE.out, HS.out]
          simp only [hb, Bool.false_or]
        go_wp2_with fail
        go_round
        case rel => exact ⟨k + 1, by omega, by go_num, H2.out⟩
        case measure => simp [intOf]; omega
      · have H2 : Hid ((l.any fun t => !decide (t = x0) || decide (t = 0)) = true) := by
          show _ = _
          rw [HE.out, HS.out]
          simp only [hb, Bool.true_or]
        go_wp2_with fail
        go_ret
        exact ⟨⟨k, rfl, by rw [H2.out]; simp⟩, Chg.refl _ _⟩
    · obtain rfl : k = l.length := by omega
      have H2 := Lib.hid (HE.out.trans (show ((l.drop l.length).any fun t => !decide (t = x0) || decide (t = 0)) = false by rw [List.drop_length]; rfl))
      go_wp2_with fail
      go_ret
      exact ⟨⟨(-1 : Int), rfl, by rw [H2.out]; exact ⟨fun h => absurd h (by decide), fun h => by cases h⟩⟩, Chg.refl _ _⟩
theorem hasA_any (l : List Int) (v : Value) (B : Nat) (x0 : Int) (vl : Value) (w : World) (h : TyR w l v) (hn : l.length ≤ 100000) (hb : w.cell? ⟨B, 0, none⟩ = some vl) (hx : ∃ g o n cap, vl = .slice (some ⟨g, o, none⟩) n cap ∧ 0 < n ∧ n ≤ 100000 ∧ w.cell? ⟨g, o, none⟩ = some (.int .u8 x0)) :
    Calls Try.prog 87 #[v, .func (.func 89) #[] #[.pointer (some ⟨B, 0, none⟩)]] w fun e w' => e = .returned (.bool (l.any fun t => !decide (t = x0) || decide (t = 0))) ∧ Ext w w' := by
  have hi := idxA_any l v B x0 vl w h hn hb hx
  obtain ⟨g, o, cap, rfl, _⟩ := h
  have HI := Lib.hid hi
  clear hi
  generalize (l.any fun t => !decide (t = x0) || decide (t = 0)) = b at *
  go_enter Try.func87, Try.ntmps87
  go_wp2_with fail
  refine HI.out.mono ?_
  rintro e w1 ⟨⟨n, rfl, hn⟩, hE⟩
  have HN := Lib.hid hn
  clear hn
  go_wp2_with fail
  go_ret
  exact ⟨congrArg (fun b => Ending.returned (Value.bool b)) (Bool.eq_iff_iff.2 (decide_eq_true_iff.trans HN.out)), hE⟩
end Go.Proofs.Ytcbdeoekehkbiaa
