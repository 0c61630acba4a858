/- How late who asks must be; are numbers of lateness odd. -/
import Derived.Test.YtjdficgejjkaoaaLateP
import Derived.Test.YtjdficgejjkaoaaInts
import Derived.Test.YtjdficgejjkaoaaHas
import Derived.RegionTactic
import Derived.BigQuiet
import Derived.Deep.QuietTactic
namespace Go.Proofs.Ytjdficgejjkaoaa
open Go.RowKit
set_option linter.unusedVariables false
set_option linter.unusedSimpArgs false

def askV (x : Ask) : Value := .agg #[.int .i64 x.flow, .int .i64 x.src, .int .i64 x.more, .string x.ref.1, .int .i64 x.ref.2]
/-- Numbers that may be, as many as flows. -/
def LsOk (p : PrD) (l : List Int) : Prop := l.length = p.flows.length ∧ ∀ n, n ∈ l → 0 ≤ n ∧ n ≤ 1000
set_option maxRecDepth 100000 in
set_option maxHeartbeats 4000000 in
theorem askLeast_any (p : PrD) (x : Ask) (l : List Int) (v : Value) (w : World) (hx : AskOk p x) (hl : RdIntV w 0 false l v) (hok : LsOk p l) : Calls Try.prog 36 #[askV x, v] w (RetE (leastA l x) w) := by
  obtain ⟨f, s, m, r1, r2⟩ := x
  have h1 := hx.src0
  have h2 := hx.src1
  have h3 := hx.more0
  have h4 := hx.more1
  have hlen : l.length = p.flows.length := hok.1
  simp only at h1 h2 h3 h4
  have HL := Lib.hid hl
  obtain ⟨la, lc, rfl, hft, _⟩ := hl.form
  unfold fitsR at hft
  have HK := Lib.hid hok
  have HLEN := Lib.hid hlen
  have E0 : Ext w (w.alloc (.cells #[.int .i64 f, .int .i64 s, .int .i64 m, .string r1, .int .i64 r2] 84)) := (Chg.refl _ _).alloc _
  clear hx hok hlen hl
  unfold askV
  by_cases hs : s < 0
  · have hfin : leastA l ⟨f, s, m, r1, r2⟩ = m := by unfold leastA; simp [hs]
    rw [hfin]
    go_enter Try.func36, Try.ntmps36
    go_wp2_with fail
    go_ret
    exact ⟨rfl, E0⟩
  · obtain ⟨k, rfl⟩ := Int.eq_ofNat_of_zero_le (show 0 ≤ s by omega)
    have hk : k < l.length := by have := HLEN.out; omega
    have hx := List.getElem?_eq_getElem hk
    obtain ⟨_, b2, o2, rfl, _, _, c2⟩ := HL.out.get hx
    have hrg := HK.out.2 _ (List.getElem_mem hk)
    have hfin : leastA l ⟨f, k, m, r1, r2⟩ = l[k] + m := by
      unfold leastA
      rw [if_neg hs]
      simp only [Int.toNat_natCast]
      rw [List.getD_eq_getElem?_getD, hx]; rfl
    rw [hfin]
    have hkl : (k : Int) < (l.length : Int) := by omega
    have bs : ¬ (k : Int) < 0 := by omega
    generalize l[k] = u at *
    have c2 := E0.cell c2
    have x0 := blk_cell (heap_alloc_new w (.cells #[.int .i64 f, .int .i64 k, .int .i64 m, .string r1, .int .i64 r2] 84)) 1
    have x1 := blk_cell (heap_alloc_new w (.cells #[.int .i64 f, .int .i64 k, .int .i64 m, .string r1, .int .i64 r2] 84)) 2
    simp only [List.getElem?_toArray, List.getElem?_cons_zero, List.getElem?_cons_succ] at x0 x1
    clear hx hfin
    go_enter Try.func36, Try.ntmps36
    go_wp2_with fail
    generalize (w.alloc (.cells #[.int .i64 f, .int .i64 k, .int .i64 m, .string r1, .int .i64 r2] 84)) = W0 at *
    go_quiet (fail)
    go_wp2_with fail
    go_ret
    exact ⟨rfl, E0.drewN _⟩
def lateBad (n : Int) : Bool := decide (n < 0) || decide (1000 < n)
theorem lateBad_one (n : Int) (w : World) : Calls Try.prog 40 #[.int .i64 n] w (RetV (lateBad n) w) := by
  have key : ∀ b, b = lateBad n → RetV (lateBad n) w (.returned (.bool b)) w := fun b h => by rw [h]; exact ⟨rfl, Chg.refl _ _⟩
  have K := Lib.hid key
  clear key
  by_cases h : n < 0
  · have e : true = lateBad n := by simp [lateBad, h]
    have E := Lib.hid e
    clear e
    go_enter Try.func40, Try.ntmps40
    go_wp2_with fail
    go_ret
    exact K.out _ E.out
  · have e : decide (1000 < n) = lateBad n := by simp [lateBad, h]
    have E := Lib.hid e
    clear e
    go_enter Try.func40, Try.ntmps40
    go_wp2_with fail
    go_ret
    exact K.out _ E.out
set_option maxHeartbeats 1000000 in
theorem idxN_any (l : List Int) (v : Value) (w : World) (h : RdIntV w 0 false l v) :
    Calls Try.prog 66 #[v, .func (.func 40) #[] #[]] w (RetIxB (l.any lateBad) w) := by
  obtain ⟨a, cap, rfl, hrest⟩ := h
  have h : RdIntV w 0 false l (.slice a l.length cap) := ⟨_, _, rfl, hrest⟩
  have hn : l.length ≤ 9000000000000000000 := by have := hrest.1; unfold fitsR at this; omega
  clear hrest
  have hp := fun (x : Int) (W : World) => lateBad_one x W
  have HP := Lib.hid hp
  clear hp
  generalize hpe : lateBad = P at *
  go_enter Try.func66, Try.ntmps66
  go_wp2_with fail
  go_loopw [8] (fun i wr => ∃ k : Nat, k ≤ l.length ∧ i = .int .i64 k ∧ (l.any P) = ((l.drop k).any P) ∧ Ext w wr) (fun i _ => l.length - (intOf i).toNat)
  case atStart => exact ⟨0, Nat.zero_le _, rfl, rfl, Chg.refl _ _⟩
  case round =>
    obtain ⟨k, hk, rfl, hE, hX⟩ := hrel
    have HE := Lib.hid hE
    clear hE
    by_cases hlt : k < l.length
    · have hx : l[k]? = some l[k] := List.getElem?_eq_getElem hlt
      have q1 : (k : Int) < (l.length : Int) := by omega
      have HS := Lib.hid (anyG_at (f := P) hx)
      obtain ⟨_, b, o, rfl, _, hlt2, c0⟩ := (h.ext hX).get hx
      generalize l[k] = y at *
      clear hx
      go_wp2_with fail
      refine (HP.out y wr).mono ?_
      rintro e w1 ⟨he, hE1⟩
      cases hb : P y
      · rw [hb] at he
        subst he
        have H2 : Hid ((l.any P) = ((l.drop (k + 1)).any P)) := by
          show _ = _
          rw [HE.out, HS.out, hb, Bool.false_or]
        have hX1 := hX.trans hE1
        clear hX hE1
        go_wp2_with fail
        go_roundw
        case rel => exact ⟨k + 1, by omega, by go_num, H2.out, hX1⟩
        case measure => simp [intOf]; omega
      · rw [hb] at he
        subst he
        have H2 : Hid ((l.any P) = true) := by
          show _ = _
          rw [HE.out, HS.out, hb, Bool.true_or]
        go_wp2_with fail
        go_ret
        exact ⟨⟨k, rfl, by rw [H2.out]; simp⟩, hX.trans hE1⟩
    · obtain rfl : k = l.length := by omega
      have H2 := Lib.hid (HE.out.trans (show ((l.drop l.length).any P) = false by rw [List.drop_length]; rfl))
      go_wp2_with fail
      go_ret
      exact ⟨⟨(-1 : Int), rfl, by rw [H2.out]; exact ⟨fun h => absurd h (by decide), fun h => by cases h⟩⟩, hX⟩
theorem hasN_any (l : List Int) (v : Value) (w : World) (h : RdIntV w 0 false l v) :
    Calls Try.prog 39 #[v, .func (.func 40) #[] #[]] w (RetV (l.any lateBad) w) := by
  have hi := idxN_any l v w h
  obtain ⟨a, cap, rfl, _⟩ := h
  have HI := Lib.hid hi
  clear hi
  generalize (l.any lateBad) = b at *
  go_enter Try.func39, Try.ntmps39
  go_wp2_with fail
  refine HI.out.mono ?_
  rintro e w1 ⟨⟨n, rfl, hn⟩, hE⟩
  have HN := Lib.hid hn
  clear hn
  go_wp2_with fail
  go_ret
  exact retV (Bool.eq_iff_iff.2 (decide_eq_true_iff.trans HN.out)) hE
theorem lsOk_iff {p : PrD} {l : List Int} : LsOk p l ↔ l.length = p.flows.length ∧ l.any lateBad = false := by
  unfold LsOk
  refine and_congr Iff.rfl ?_
  rw [List.any_eq_false]
  refine ⟨fun h n hn => ?_, fun h n hn => ?_⟩
  · have := h n hn
    simp [lateBad]; omega
  · have := h n hn
    simp [lateBad] at this; omega
end Go.Proofs.Ytjdficgejjkaoaa
