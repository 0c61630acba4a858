/- The rules of types: what each function answers. -/
import Derived.Test.YtcbdeoekehkbiaaTyR
import Derived.Deep.RegionHeld3
namespace Go.Proofs.Ytcbdeoekehkbiaa
open Go.RowKit
set_option linter.unusedVariables false
set_option linter.unusedSimpArgs false

def eachT (of whole : Int) (l : List Int) : Int := if (l.any fun t => !decide (t = of)) = true then 0 else whole
def alikeT (l : List Int) : Bool := !(l.any fun t => !decide (t = l.headD 0) || decide (t = 0))
def sameT (l : List Int) : Int := if alikeT l = true then l.headD 0 else 0
def equalT (l : List Int) : Int := if alikeT l = true then 2 else 0
def ifT (l : List Int) : Int := if l.headD 0 = 2 then sameT l.tail else 0
def RetTy (n : Int) (w : World) (e : Ending) (w' : World) : Prop := e = .returned (.int .u8 n) ∧ Ext w w'
theorem each1_any (of whole : Int) (l : List Int) (v : Value) (Bo Bw : Nat) (w : World) (h : TyR w l v) (hn : l.length ≤ 100000) (ho : w.cell? ⟨Bo, 0, none⟩ = some (.int .u8 of)) (hw : w.cell? ⟨Bw, 0, none⟩ = some (.int .u8 whole)) :
    Calls Try.prog 86 #[v, .pointer (some ⟨Bo, 0, none⟩), .pointer (some ⟨Bw, 0, none⟩)] w (RetTy (eachT of whole l) w) := by
  have hE : eachT of whole l = if (l.any fun t => !decide (t = of)) = true then 0 else whole := rfl
  have HE := Lib.hid hE
  have HC := Lib.hid (hasE_any l v Bo of w h hn ho)
  obtain ⟨g, o, cap, rfl, _⟩ := h
  clear hE
  generalize (l.any fun t => !decide (t = of)) = b at *
  go_enter Try.func86, Try.ntmps86
  go_wp2_with fail
  refine HC.out.mono ?_
  rintro e w1 ⟨rfl, E1⟩
  have hw1 := Ext.cell E1 hw
  cases b
  · go_wp2_with fail
    go_ret
    exact ⟨by rw [HE.out]; rfl, E1⟩
  · go_wp2_with fail
    go_ret
    exact ⟨by rw [HE.out]; rfl, E1⟩
theorem alike_any (l : List Int) (v : Value) (w : World) (h : TyR w l v) (h1 : 1 ≤ l.length) (hn : l.length ≤ 100000) :
    Calls Try.prog 72 #[v] w fun e w' => e = .returned (.bool (alikeT l)) ∧ Ext w w' := by
  have hE : alikeT l = !(l.any fun t => !decide (t = l.headD 0) || decide (t = 0)) := rfl
  have HE := Lib.hid hE
  have K : Ext w (w.alloc (.cells #[v] 60)) := (Chg.refl _ _).alloc _
  have hb : (w.alloc (.cells #[v] 60)).cell? ⟨w.heap.size, 0, none⟩ = some v := World.cell?_alloc_new _ _ _ _
  have hx : ∃ g o n cap, v = .slice (some ⟨g, o, none⟩) n cap ∧ 0 < n ∧ n ≤ 100000 ∧ (w.alloc (.cells #[v] 60)).cell? ⟨g, o, none⟩ = some (.int .u8 (l.headD 0)) := by
    obtain ⟨g, o, cap, rfl, hcap, hr⟩ := h
    refine ⟨g, o, l.length, cap, rfl, by omega, hn, K.cell ?_⟩
    have := hr 0 (l.headD 0) (by cases l with | nil => simp at h1 | cons x r => rfl)
    simpa using this
  have HC := Lib.hid (hasA_any l v w.heap.size (l.headD 0) v _ (h.ext K) hn hb hx)
  obtain ⟨g, o, cap, rfl, _⟩ := h
  clear hE hx
  generalize (l.any fun t => !decide (t = l.headD 0) || decide (t = 0)) = b at *
  go_enter Try.func72, Try.ntmps72
  go_wp2_with fail
  refine HC.out.mono ?_
  rintro e w1 ⟨rfl, E1⟩
  go_wp2_with fail
  go_ret
  exact ⟨by rw [HE.out]; rfl, K.trans E1⟩
theorem head_at {w : World} {l : List Int} {g o : Nat} (hr : ∀ i x, l[i]? = some x → w.cell? ⟨g, o + i, none⟩ = some (.int .u8 x)) (h1 : 1 ≤ l.length) : w.cell? ⟨g, o, none⟩ = some (.int .u8 (l.headD 0)) := by
  have := hr 0 (l.headD 0) (by cases l with | nil => simp at h1 | cons x r => rfl)
  simpa using this
theorem same_any (l : List Int) (v : Value) (w : World) (h : TyR w l v) (h1 : 1 ≤ l.length) (hn : l.length ≤ 100000) : Calls Try.prog 71 #[v] w (RetTy (sameT l) w) := by
  have HE := Lib.hid (show sameT l = if alikeT l = true then l.headD 0 else 0 from rfl)
  have HC := Lib.hid (alike_any l v w h h1 hn)
  obtain ⟨g, o, cap, rfl, hcap, hr⟩ := h
  have c0 := head_at hr h1
  have q0 : (0 : Int) < (l.length : Int) := by omega
  clear hr
  generalize alikeT l = b at *
  generalize l.headD 0 = x0 at *
  go_enter Try.func71, Try.ntmps71
  go_wp2_with fail
  refine HC.out.mono ?_
  rintro e w1 ⟨rfl, E1⟩
  have c1 := Ext.cell E1 c0
  cases b
  · go_wp2_with fail
    go_ret
    exact ⟨by rw [HE.out]; rfl, E1⟩
  · go_wp2_with fail
    go_ret
    exact ⟨by rw [HE.out]; rfl, E1⟩
theorem equal_any (l : List Int) (v : Value) (w : World) (h : TyR w l v) (h1 : 1 ≤ l.length) (hn : l.length ≤ 100000) : Calls Try.prog 73 #[v] w (RetTy (equalT l) w) := by
  have HE := Lib.hid (show equalT l = if alikeT l = true then 2 else 0 from rfl)
  have HC := Lib.hid (alike_any l v w h h1 hn)
  obtain ⟨g, o, cap, rfl, hcap, hr⟩ := h
  clear hr
  generalize alikeT l = b at *
  go_enter Try.func73, Try.ntmps73
  go_wp2_with fail
  refine HC.out.mono ?_
  rintro e w1 ⟨rfl, E1⟩
  cases b
  · go_wp2_with fail
    go_ret
    exact ⟨by rw [HE.out]; rfl, E1⟩
  · go_wp2_with fail
    go_ret
    exact ⟨by rw [HE.out]; rfl, E1⟩
set_option maxRecDepth 100000 in
set_option maxHeartbeats 1000000 in
theorem if_any (l : List Int) (v : Value) (B : Nat) (w : World) (h : TyR w l v) (h1 : l.length = 3) (hb : w.cell? ⟨B, 0, none⟩ = some (.func (.func 71) #[] #[])) :
    Calls Try.prog 74 #[v, .pointer (some ⟨B, 0, none⟩)] w (RetTy (ifT l) w) := by
  match l, h1 with
  | [x, y, z], _ =>
    have HE0 := Lib.hid (show ifT [x, y, z] = if x = 2 then sameT [y, z] else 0 from rfl)
    obtain ⟨g, o, cap, rfl, hcap, hr⟩ := h
    have c0 : w.cell? ⟨g, o, none⟩ = some (.int .u8 x) := by have := hr 0 x rfl; simpa using this
    by_cases hx : x = 2
    · have HE := Lib.hid (HE0.out.trans (if_pos hx))
      subst hx
      have hc1 : ¬ cap = 1 := by simp only [List.length_cons, List.length_nil] at hcap; omega
      have hT : TyR w.drew [y, z] (.slice (some ⟨g, o + 1, none⟩) 2 (cap - 1)) := ⟨g, o + 1, cap - 1, rfl, by simp only [List.length_cons, List.length_nil] at hcap ⊢; omega, fun i t ht => by
        have := hr (i + 1) t (by simpa using ht)
        rw [show o + (i + 1) = o + 1 + i from by omega] at this
        exact this⟩
      have HC := Lib.hid (same_any [y, z] _ w.drew hT (by simp) (by simp))
      have dB := (World.cell?_drew (w := w) (a := ⟨B, 0, none⟩)).trans hb
      clear hT hr
      generalize sameT [y, z] = s at *
      go_enter Try.func74, Try.ntmps74
      go_wp2_with fail
      go_region_held3 (fun X => X.cell? ⟨B, 0, none⟩ = some (.func (.func 71) #[] #[]))
        (first | (with_reducible exact dB) | (with_reducible exact Ext.cell E3 dB))
        (first
          | (go_at_call 71; refine HC.out.mono ?_; rintro e w3 ⟨rfl, E3⟩))
      go_wp2_with fail
      go_ret
      exact ⟨by rw [HE.out]; rfl, (Chg.drew (Chg.refl _ _)).trans E3⟩
    · have b2 : (x == 2) = false := by simpa using hx
      have HE2 := Lib.hid (HE0.out.trans (if_neg hx))
      go_enter Try.func74, Try.ntmps74
      go_wp2_with fail
      go_ret
      exact ⟨by rw [HE2.out]; rfl, Chg.refl _ _⟩
end Go.Proofs.Ytcbdeoekehkbiaa
