/- The three ContainsFunc of progs.Check. -/
import Derived.Test.YtjdficgejjkaoaaMay
namespace Go.Proofs.Ytjdficgejjkaoaa
open Go.RowKit
set_option linter.unusedVariables false
set_option linter.unusedSimpArgs false

def RetIxB (b : Bool) (w : World) (e : Ending) (w' : World) : Prop := (∃ n : Int, e = .returned (.int .i64 n) ∧ (0 ≤ n ↔ b = true)) ∧ Ext w w'
theorem anyG_at {α : Type} {l : List α} {k : Nat} {y : α} {f : α → Bool} (h : l[k]? = some y) : (l.drop k).any f = (f y || (l.drop (k + 1)).any f) := by
  obtain ⟨hk, rfl⟩ := List.getElem?_eq_some_iff.1 h
  rw [List.drop_eq_getElem_cons hk]
  rfl

set_option maxHeartbeats 1000000 in
theorem idxI_any (l : List InD) (v : Value) (st : Int) (B : Nat) (w : World) (h : RdInV w 0 false l v) (hb : w.cell? ⟨B, 0, none⟩ = some (.int .i64 st)) :
    Calls Try.prog 89 #[v, .func (.func 72) #[] #[.pointer (some ⟨B, 0, none⟩)]] w (RetIxB (l.any (inBad st)) w) := by
  obtain ⟨a, cap, rfl, hrest⟩ := h
  have h : RdInV w 0 false l (.slice a l.length cap) := ⟨_, _, rfl, hrest⟩
  have hn : l.length ≤ 9000000000000000000 := by have := hrest.1; unfold fitsR at this; omega
  clear hrest
  have hp := fun (x : InD) (W : World) (hs : x.name.size ≤ maxLen) (hE : Ext w W) => inBad_one x st B W hs (Ext.cell hE hb)
  have HP := Lib.hid hp
  clear hp
  generalize hpe : inBad st = P at *
  go_enter Try.func89, Try.ntmps89
  go_wp2_with fail
  go_loopw [8] (fun i wr => ∃ k : Nat, k ≤ l.length ∧ i = .int .i64 k ∧ (l.any P) = ((l.drop k).any P) ∧ Ext w wr) (fun i _ => l.length - (intOf i).toNat)
  case atStart => exact ⟨0, Nat.zero_le _, rfl, rfl, Chg.refl _ _⟩
  case round =>
    obtain ⟨k, hk, rfl, hE, hX⟩ := hrel
    have HE := Lib.hid hE
    clear hE
    by_cases hlt : k < l.length
    · have hx : l[k]? = some l[k] := List.getElem?_eq_getElem hlt
      have q1 : (k : Int) < (l.length : Int) := by omega
      have HS := Lib.hid (anyG_at (f := P) hx)
      obtain ⟨_, _, e, _, _, _, hr, _⟩ := h.ext hX
      simp only [Value.slice.injEq, true_and] at e
      obtain ⟨rfl, rfl⟩ := e
      obtain ⟨hnm, _, _, b, o, rfl, _, hlt2, c0, c1, c2⟩ := hr k _ hx
      generalize l[k] = y at *
      clear hr hx
      go_wp2_with fail
      refine (show Calls _ _ _ _ (RetV (P y) wr) from HP.out y wr hnm hX).mono ?_
      rintro e w1 ⟨he, hE1⟩
      cases hb : P y
      · rw [hb] at he
        subst he
        have H2 : Hid ((l.any P) = ((l.drop (k + 1)).any P)) := by
          show _ = _
          rw [HE.out, HS.out, hb, Bool.false_or]
        have hX1 := hX.trans hE1
        clear hX hE1
        go_wp2_with fail
        go_roundw
        case rel => exact ⟨k + 1, by omega, by go_num, H2.out, hX1⟩
        case measure => simp [intOf]; omega
      · rw [hb] at he
        subst he
        have H2 : Hid ((l.any P) = true) := by
          show _ = _
          rw [HE.out, HS.out, hb, Bool.true_or]
        go_wp2_with fail
        go_ret
        exact ⟨⟨k, rfl, by rw [H2.out]; simp⟩, hX.trans hE1⟩
    · obtain rfl : k = l.length := by omega
      have H2 := Lib.hid (HE.out.trans (show ((l.drop l.length).any P) = false by rw [List.drop_length]; rfl))
      go_wp2_with fail
      go_ret
      exact ⟨⟨(-1 : Int), rfl, by rw [H2.out]; exact ⟨fun h => absurd h (by decide), fun h => by cases h⟩⟩, hX⟩
theorem hasI_any (l : List InD) (v : Value) (st : Int) (B : Nat) (w : World) (h : RdInV w 0 false l v) (hb : w.cell? ⟨B, 0, none⟩ = some (.int .i64 st)) :
    Calls Try.prog 71 #[v, .func (.func 72) #[] #[.pointer (some ⟨B, 0, none⟩)]] w (RetV (l.any (inBad st)) w) := by
  have hi := idxI_any l v st B w h hb
  obtain ⟨a, cap, rfl, _⟩ := h
  have HI := Lib.hid hi
  clear hi
  generalize (l.any (inBad st)) = b at *
  go_enter Try.func71, Try.ntmps71
  go_wp2_with fail
  refine HI.out.mono ?_
  rintro e w1 ⟨⟨n, rfl, hn⟩, hE⟩
  have HN := Lib.hid hn
  clear hn
  go_wp2_with fail
  go_ret
  exact retV (Bool.eq_iff_iff.2 (decide_eq_true_iff.trans HN.out)) hE
set_option maxHeartbeats 1000000 in
theorem idxF_any (l : List FlD) (v : Value) (st : Int) (B : Nat) (w : World) (h : RdFlV w 0 false l v) (hb : w.cell? ⟨B, 0, none⟩ = some (.int .i64 st)) :
    Calls Try.prog 90 #[v, .func (.func 75) #[] #[.pointer (some ⟨B, 0, none⟩)]] w (RetIxB (l.any (flBad st)) w) := by
  obtain ⟨a, cap, rfl, hrest⟩ := h
  have h : RdFlV w 0 false l (.slice a l.length cap) := ⟨_, _, rfl, hrest⟩
  have hn : l.length ≤ 9000000000000000000 := by have := hrest.1; unfold fitsR at this; omega
  clear hrest
  have hp := fun (x : FlD) (v : Value) (W : World) (hs : x.name.size ≤ maxLen) (hv : RdExV W 0 false x.body.args v) (hbn : x.body.name.size ≤ maxLen) (hE : Ext w W) => flBad_one x v st B W hs hv hbn (Ext.cell hE hb)
  have HP := Lib.hid hp
  clear hp
  generalize hpe : flBad st = P at *
  go_enter Try.func90, Try.ntmps90
  go_wp2_with fail
  go_loopw [8] (fun i wr => ∃ k : Nat, k ≤ l.length ∧ i = .int .i64 k ∧ (l.any P) = ((l.drop k).any P) ∧ Ext w wr) (fun i _ => l.length - (intOf i).toNat)
  case atStart => exact ⟨0, Nat.zero_le _, rfl, rfl, Chg.refl _ _⟩
  case round =>
    obtain ⟨k, hk, rfl, hE, hX⟩ := hrel
    have HE := Lib.hid hE
    clear hE
    by_cases hlt : k < l.length
    · have hx : l[k]? = some l[k] := List.getElem?_eq_getElem hlt
      have q1 : (k : Int) < (l.length : Int) := by omega
      have HS := Lib.hid (anyG_at (f := P) hx)
      obtain ⟨_, _, e, _, _, _, hr, _⟩ := h.ext hX
      simp only [Value.slice.injEq, true_and] at e
      obtain ⟨rfl, rfl⟩ := e
      obtain ⟨hnm, _, _, _, b, o, rfl, _, hlt2, c0, c1, c2, c3, _, _, hbn, v, hvx, c4, c5, c6, c7⟩ := hr k _ hx
      generalize l[k] = y at *
      clear hr hx
      go_wp2_with fail
      refine (show Calls _ _ _ _ (RetV (P y) wr) from HP.out y v wr hnm hvx hbn hX).mono ?_
      rintro e w1 ⟨he, hE1⟩
      cases hb : P y
      · rw [hb] at he
        subst he
        have H2 : Hid ((l.any P) = ((l.drop (k + 1)).any P)) := by
          show _ = _
          rw [HE.out, HS.out, hb, Bool.false_or]
        have hX1 := hX.trans hE1
        clear hX hE1
        go_wp2_with fail
        go_roundw
        case rel => exact ⟨k + 1, by omega, by go_num, H2.out, hX1⟩
        case measure => simp [intOf]; omega
      · rw [hb] at he
        subst he
        have H2 : Hid ((l.any P) = true) := by
          show _ = _
          rw [HE.out, HS.out, hb, Bool.true_or]
        go_wp2_with fail
        go_ret
        exact ⟨⟨k, rfl, by rw [H2.out]; simp⟩, hX.trans hE1⟩
    · obtain rfl : k = l.length := by omega
      have H2 := Lib.hid (HE.out.trans (show ((l.drop l.length).any P) = false by rw [List.drop_length]; rfl))
      go_wp2_with fail
      go_ret
      exact ⟨⟨(-1 : Int), rfl, by rw [H2.out]; exact ⟨fun h => absurd h (by decide), fun h => by cases h⟩⟩, hX⟩
theorem hasF_any (l : List FlD) (v : Value) (st : Int) (B : Nat) (w : World) (h : RdFlV w 0 false l v) (hb : w.cell? ⟨B, 0, none⟩ = some (.int .i64 st)) :
    Calls Try.prog 74 #[v, .func (.func 75) #[] #[.pointer (some ⟨B, 0, none⟩)]] w (RetV (l.any (flBad st)) w) := by
  have hi := idxF_any l v st B w h hb
  obtain ⟨a, cap, rfl, _⟩ := h
  have HI := Lib.hid hi
  clear hi
  generalize (l.any (flBad st)) = b at *
  go_enter Try.func74, Try.ntmps74
  go_wp2_with fail
  refine HI.out.mono ?_
  rintro e w1 ⟨⟨n, rfl, hn⟩, hE⟩
  have HN := Lib.hid hn
  clear hn
  go_wp2_with fail
  go_ret
  exact retV (Bool.eq_iff_iff.2 (decide_eq_true_iff.trans HN.out)) hE
set_option maxHeartbeats 1000000 in
theorem idxS_any (l : List ByteArray) (v : Value) (w : World) (h : RdStrV w 0 false l v) :
    Calls Try.prog 92 #[v, .func (.func 78) #[] #[]] w (RetIxB (l.any ((fun s : ByteArray => !nameP s))) w) := by
  obtain ⟨a, cap, rfl, hrest⟩ := h
  have h : RdStrV w 0 false l (.slice a l.length cap) := ⟨_, _, rfl, hrest⟩
  have hn : l.length ≤ 9000000000000000000 := by have := hrest.1; unfold fitsR at this; omega
  clear hrest
  have hp := fun (x : ByteArray) (W : World) (hs : x.size ≤ maxLen) => sBad_one x W hs
  have HP := Lib.hid hp
  clear hp
  generalize hpe : (fun s : ByteArray => !nameP s) = P at *
  go_enter Try.func92, Try.ntmps92
  go_wp2_with fail
  go_loopw [8] (fun i wr => ∃ k : Nat, k ≤ l.length ∧ i = .int .i64 k ∧ (l.any P) = ((l.drop k).any P) ∧ Ext w wr) (fun i _ => l.length - (intOf i).toNat)
  case atStart => exact ⟨0, Nat.zero_le _, rfl, rfl, Chg.refl _ _⟩
  case round =>
    obtain ⟨k, hk, rfl, hE, hX⟩ := hrel
    have HE := Lib.hid hE
    clear hE
    by_cases hlt : k < l.length
    · have hx : l[k]? = some l[k] := List.getElem?_eq_getElem hlt
      have q1 : (k : Int) < (l.length : Int) := by omega
      have HS := Lib.hid (anyG_at (f := P) hx)
      obtain ⟨_, _, e, _, _, _, hr, _⟩ := h.ext hX
      simp only [Value.slice.injEq, true_and] at e
      obtain ⟨rfl, rfl⟩ := e
      obtain ⟨hnm, b, o, rfl, _, hlt2, c0⟩ := hr k _ hx
      generalize l[k] = y at *
      clear hr hx
      go_wp2_with fail
      refine (show Calls _ _ _ _ (RetV (P y) wr) by rw [← hpe]; exact HP.out y wr hnm).mono ?_
      rintro e w1 ⟨he, hE1⟩
      cases hb : P y
      · rw [hb] at he
        subst he
        have H2 : Hid ((l.any P) = ((l.drop (k + 1)).any P)) := by
          show _ = _
          rw [HE.out, HS.out, hb, Bool.false_or]
        have hX1 := hX.trans hE1
        clear hX hE1
        go_wp2_with fail
        go_roundw
        case rel => exact ⟨k + 1, by omega, by go_num, H2.out, hX1⟩
        case measure => simp [intOf]; omega
      · rw [hb] at he
        subst he
        have H2 : Hid ((l.any P) = true) := by
          show _ = _
          rw [HE.out, HS.out, hb, Bool.true_or]
        go_wp2_with fail
        go_ret
        exact ⟨⟨k, rfl, by rw [H2.out]; simp⟩, hX.trans hE1⟩
    · obtain rfl : k = l.length := by omega
      have H2 := Lib.hid (HE.out.trans (show ((l.drop l.length).any P) = false by rw [List.drop_length]; rfl))
      go_wp2_with fail
      go_ret
      exact ⟨⟨(-1 : Int), rfl, by rw [H2.out]; exact ⟨fun h => absurd h (by decide), fun h => by cases h⟩⟩, hX⟩
theorem hasS_any (l : List ByteArray) (v : Value) (w : World) (h : RdStrV w 0 false l v) :
    Calls Try.prog 77 #[v, .func (.func 78) #[] #[]] w (RetV (l.any ((fun s : ByteArray => !nameP s))) w) := by
  have hi := idxS_any l v w h
  obtain ⟨a, cap, rfl, _⟩ := h
  have HI := Lib.hid hi
  clear hi
  generalize (l.any ((fun s : ByteArray => !nameP s))) = b at *
  go_enter Try.func77, Try.ntmps77
  go_wp2_with fail
  refine HI.out.mono ?_
  rintro e w1 ⟨⟨n, rfl, hn⟩, hE⟩
  have HN := Lib.hid hn
  clear hn
  go_wp2_with fail
  go_ret
  exact retV (Bool.eq_iff_iff.2 (decide_eq_true_iff.trans HN.out)) hE
end Go.Proofs.Ytjdficgejjkaoaa
