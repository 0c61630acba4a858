/- The size of what is worked out, where it is no greater than may be counted. -/
import Derived.Test.YtcbdeoekehkbiaaSize
import Derived.Test.YtcbdeoekehkbiaaChk
namespace Go.Proofs.Ytcbdeoekehkbiaa
open Go.RowKit
set_option linter.unusedVariables false
set_option linter.unusedSimpArgs false

mutual
def sE : Ex → Nat
  | .mk _ _ nm l => 1 + nm.size + sL l
def sL : List Ex → Nat
  | [] => 0
  | x :: r => 1 + sE x + sL r
end
theorem sL_at {l : List Ex} {k : Nat} {x : Ex} (h : l[k]? = some x) : sL (l.drop k) = 1 + sE x + sL (l.drop (k + 1)) ∧ nodesL (l.drop k) = nodesE x + nodesL (l.drop (k + 1)) := by
  obtain ⟨hk, rfl⟩ := List.getElem?_eq_some_iff.1 h
  rw [List.drop_eq_getElem_cons hk]
  exact ⟨rfl, rfl⟩
theorem sL_len (l : List Ex) : l.length ≤ sL l := by
  induction l with
  | nil => simp [sL]
  | cons x r ih => simp only [sL, List.length_cons]; omega
theorem sL_mem {l : List Ex} {x : Ex} (h : x ∈ l) : sE x ≤ sL l := by
  induction l with
  | nil => simp at h
  | cons y r ih =>
    simp only [sL]
    rcases List.mem_cons.1 h with rfl | h
    · omega
    · have := ih h; omega
/-- Room enough to be counted. -/
def RetS (w : World) (b n : Nat) (e : Ending) (w' : World) : Prop := ∃ m : Nat, e = .returned (.int .i64 m) ∧ m ≤ b ∧ (m ≤ 20000 → n ≤ m) ∧ Ext w w'
def SizeB (x : Ex) : Prop := ∀ (v : Value) (w : World), RdExV w 0 false x.args v → sE x ≤ 1099511627776 → Calls Try.prog 19 #[.agg #[.int .u8 x.op, .int .i64 x.n, .string x.name, v]] w (RetS w (sE x) (nodesE x))
def SzSt (l : List Ex) (k m : Nat) : Prop := m + sL (l.drop k) ≤ sL l + (l.length - k) ∧ (m ≤ 20000 → nodesL l ≤ m + nodesL (l.drop k))
theorem SzSt.step {l : List Ex} {k m m' : Nat} {x : Ex} (h : SzSt l k m) (hx : l[k]? = some x) (h1 : m' ≤ sE x) (h2 : m' ≤ 20000 → nodesE x ≤ m') : SzSt l (k + 1) (m + m') := by
  obtain ⟨a, b⟩ := h
  obtain ⟨c, d⟩ := sL_at hx
  have hk := (List.getElem?_eq_some_iff.1 hx).1
  refine ⟨by omega, fun hm => ?_⟩
  have := b (by omega)
  have := h2 (by omega)
  omega
theorem SzSt.le {l : List Ex} {k m : Nat} (h : SzSt l k m) : m ≤ sL l := by
  have := h.1
  have h2 := sL_len (l.drop k)
  rw [List.length_drop] at h2
  omega
theorem exprsSizeB_of (l : List Ex) (ih : ∀ x, x ∈ l → SizeB x) (v : Value) (w : World) (h : RdExV w 0 false l v) (hb : sL l ≤ 1099511627776) : Calls Try.prog 35 #[v] w (RetS w (sL l) (nodesL l)) := by
  obtain ⟨a, cap, rfl, hrest⟩ := h
  have hv : RdExV w 0 false l (.slice a l.length cap) := ⟨a, cap, rfl, hrest⟩
  clear hrest
  have hn : l.length ≤ 1099511627776 := Nat.le_trans (sL_len l) hb
  go_enter Try.func35, Try.ntmps35
  go_wp2_with fail
  go_loopw [3, 4] (fun t i wr => ∃ k m : Nat, k ≤ l.length ∧ i = .int .i64 k ∧ t = .int .i64 m ∧ SzSt l k m ∧ Ext w wr) (fun _ i _ => l.length - (intOf i).toNat)
  case atStart => exact ⟨0, l.length, Nat.zero_le _, rfl, rfl, ⟨by rw [List.drop_zero]; omega, fun _ => by rw [List.drop_zero]; omega⟩, Chg.refl _ _⟩
  case round =>
    obtain ⟨k, m, hk, rfl, rfl, hs, he⟩ := hrel
    have HS := Lib.hid hs
    have hmb : m ≤ 1099511627776 := Nat.le_trans hs.le hb
    clear hs
    by_cases hlt : k < l.length
    · have hx := List.getElem?_eq_getElem hlt
      have hi := ih _ (List.getElem_mem hlt)
      have hxs := Nat.le_trans (sL_mem (List.getElem_mem hlt)) hb
      obtain ⟨b, o, v, rfl, _, hb2, c0, c1, c2, c3, _, _, _, hvx⟩ := (hv.ext he).get hx
      have HX := Lib.hid hx
      have q1 : (k : Int) < (l.length : Int) := by omega
      generalize l[k] = x at *
      clear hx
      by_cases hm : m ≤ 1048576
      · have q2 : (m : Int) ≤ 1048576 := by omega
        go_wp2_with fail
        refine (hi v _ hvx hxs).mono ?_
        rintro e w1 ⟨m', rfl, h1, h2, he1⟩
        have he2 : Ext w w1 := he.trans he1
        have hst := Lib.hid (HS.out.step HX.out h1 h2)
        have q3 : IntKind.i64.wrap ((m : Int) + (m' : Int)) = ((m + m' : Nat) : Int) := by rw [IntKind.wrap_i64] <;> omega
        clear he he1 h2
        go_wp2_with fail
        go_roundw
        case rel => exact ⟨k + 1, m + m', by omega, by go_num, by first | rfl | (rw [q3]) | simp [q3], hst.out, he2⟩
        case measure => simp [intOf]; omega
      · have q2 : ¬ (m : Int) ≤ 1048576 := by omega
        go_wp2_with fail
        go_ret
        exact ⟨_, rfl, HS.out.le, fun h => by omega, he⟩
    · obtain rfl : k = l.length := by omega
      have hfin := HS.out.2
      rw [List.drop_length] at hfin
      have HF := Lib.hid hfin
      clear hfin
      go_wp2_with fail
      go_ret
      exact ⟨_, rfl, HS.out.le, fun h => by have := HF.out h; simpa [nodesL] using this, he⟩
theorem exprSizeB_any : ∀ x, SizeB x := by
  refine Ex.ind fun op n nm args ih => ?_
  intro v w hv hb
  simp only [Ex.op, Ex.n, Ex.name, Ex.args] at *
  have ih' := exprsSizeB_of args ih
  obtain ⟨a, cap, rfl, hrest⟩ := hv
  have hv : RdExV w 0 false args (.slice a args.length cap) := ⟨a, cap, rfl, hrest⟩
  clear hrest ih
  simp only [sE, nodesE] at *
  have q0 : IntKind.i64.wrap (1 + (nm.size : Int)) = ((1 + nm.size : Nat) : Int) := by rw [IntKind.wrap_i64] <;> omega
  have HB := Lib.hid hb
  have hnm : nm.size ≤ 1099511627776 := by omega
  clear hb
  go_enter Try.func19, Try.ntmps19
  by_cases hm : 1 + nm.size ≤ 1048576
  · have q2 : (1 : Int) + (nm.size : Int) ≤ 1048576 := by omega
    go_wp2_with fail
    refine (ih' _ _ (hv.ext ((Chg.refl _ _).alloc _)) (by have := HB.out; omega)).mono ?_
    rintro e w1 ⟨m, rfl, h1, h2, he⟩
    have hmb : m ≤ 1099511627776 := by have := HB.out; omega
    have q3 : IntKind.i64.wrap ((1 : Int) + (nm.size : Int) + (m : Int)) = ((1 + nm.size + m : Nat) : Int) := by rw [IntKind.wrap_i64] <;> omega
    have H2 := Lib.hid h2
    clear h2
    go_wp2_with fail
    go_ret
    exact ⟨1 + nm.size + m, by simp, by omega, fun h => by have := H2.out (by omega); omega, ((Chg.refl _ _).alloc _).trans he⟩
  · have q2 : ¬ (1 : Int) + (nm.size : Int) ≤ 1048576 := by omega
    go_wp2_with fail
    go_ret
    exact ⟨1 + nm.size, by simp, by omega, fun h => by omega, (Chg.refl _ _).alloc _⟩
end Go.Proofs.Ytcbdeoekehkbiaa
