/- The sizes: each call returns some number and changes nothing. -/
import Derived.Test.YtjdficgejjkaoaaRows
import Derived.Test.YtjdficgejjkaoaaData
import Derived.Lib.Hide
namespace Go.Proofs.Ytjdficgejjkaoaa
open Go.RowKit
set_option linter.unusedVariables false

/-- Some number, in an extended world. -/
def RetI (w : World) (e : Ending) (w' : World) : Prop := ∃ m : Int, e = .returned (.int .i64 m) ∧ Ext w w'
/-- Some answer, in an extended world. -/
def RetB (w : World) (e : Ending) (w' : World) : Prop := ∃ b : Bool, e = .returned (.bool b) ∧ Ext w w'

theorem textsSize_any (l : List ByteArray) (v : Value) (w : World) (h : RdStrV w 0 false l v) : Calls Try.prog 62 #[v] w (RetI w) := by
  obtain ⟨a, cap, rfl, hf, hl, hm, hr, _⟩ := h
  unfold fitsR at hf
  have hn : l.length ≤ 9000000000000000000 := by omega
  go_enter Try.func62, Try.ntmps62
  go_wp2
  go_loop [3, 4] (fun t i => ∃ k : Nat, k ≤ l.length ∧ i = .int .i64 k ∧ ∃ m : Int, t = .int .i64 m) (fun _ i => l.length - (intOf i).toNat)
  case atStart => exact ⟨0, Nat.zero_le _, rfl, _, rfl⟩
  case round =>
    obtain ⟨k, hk, rfl, m, rfl⟩ := hrel
    by_cases hlt : k < l.length
    · obtain ⟨_, b, o, rfl, _, hb, hc⟩ := hr k _ (List.getElem?_eq_getElem hlt)
      go_wp2
      · go_round
        case rel => exact ⟨k + 1, by omega, by go_num, _, rfl⟩
        case measure => simp [intOf]; omega
      · go_ret
        exact ⟨_, rfl, Chg.refl _ _⟩
    · go_wp2
      go_ret
      exact ⟨_, rfl, Chg.refl _ _⟩
theorem insSize_any (l : List InD) (v : Value) (w : World) (h : RdInV w 0 false l v) : Calls Try.prog 60 #[v] w (RetI w) := by
  obtain ⟨a, cap, rfl, hf, hl, hm, hr, _⟩ := h
  unfold fitsR at hf
  have hn : l.length ≤ 9000000000000000000 := by omega
  go_enter Try.func60, Try.ntmps60
  go_wp2
  go_loop [3, 4] (fun t i => ∃ k : Nat, k ≤ l.length ∧ i = .int .i64 k ∧ ∃ m : Int, t = .int .i64 m) (fun _ i => l.length - (intOf i).toNat)
  case atStart => exact ⟨0, Nat.zero_le _, rfl, _, rfl⟩
  case round =>
    obtain ⟨k, hk, rfl, m, rfl⟩ := hrel
    by_cases hlt : k < l.length
    · obtain ⟨_, _, _, b, o, rfl, _, hb, c0, c1, c2⟩ := hr k _ (List.getElem?_eq_getElem hlt)
      go_wp2
      · go_round
        case rel => exact ⟨k + 1, by omega, by go_num, _, rfl⟩
        case measure => simp [intOf]; omega
      · go_ret
        exact ⟨_, rfl, Chg.refl _ _⟩
    · go_wp2
      go_ret
      exact ⟨_, rfl, Chg.refl _ _⟩

/-- ExprSize's contract at x. -/
def ESize (x : Ex) : Prop := ∀ (v : Value) (w : World), RdExV w 0 false x.args v → Calls Try.prog 97 #[.agg #[.int .u8 x.op, .int .i64 x.n, .string x.name, v]] w (RetI w)
theorem exprsSize_of (l : List Ex) (ih : ∀ x, x ∈ l → ESize x) (v : Value) (w : World) (h : RdExV w 0 false l v) : Calls Try.prog 108 #[v] w (RetI w) := by
  obtain ⟨a, cap, rfl, hrest⟩ := h
  have hv : RdExV w 0 false l (.slice a l.length cap) := ⟨a, cap, rfl, hrest⟩
  obtain ⟨hf, hl, hm, _⟩ := hrest
  unfold fitsR at hf
  have hn : l.length ≤ 9000000000000000000 := by omega
  go_enter Try.func108, Try.ntmps108
  go_wp2_with fail
  go_loopw [3, 4] (fun t i wr => ∃ k : Nat, k ≤ l.length ∧ i = .int .i64 k ∧ (∃ m : Int, t = .int .i64 m) ∧ Ext w wr) (fun _ i _ => l.length - (intOf i).toNat)
  case atStart => exact ⟨0, Nat.zero_le _, rfl, ⟨_, rfl⟩, Chg.refl _ _⟩
  case round =>
    obtain ⟨k, hk, rfl, ⟨m, rfl⟩, he⟩ := hrel
    by_cases hlt : k < l.length
    · have hx := List.getElem?_eq_getElem hlt
      have hi := ih _ (List.getElem_mem hlt)
      obtain ⟨b, o, v, rfl, _, hb, c0, c1, c2, c3, _, _, _, hvx⟩ := (hv.ext he).get hx
      generalize l[k] = x at *
      go_wp2_with fail
      · refine (hi v _ hvx).mono ?_
        rintro e w1 ⟨m', rfl, he1⟩
        have he2 : Ext w w1 := he.trans he1
        clear he he1
        go_wp2_with fail
        go_roundw
        case rel => exact ⟨k + 1, by omega, by go_num, ⟨_, rfl⟩, he2⟩
        case measure => simp [intOf]; omega
      · go_ret
        exact ⟨_, rfl, he⟩
    · go_wp2_with fail
      go_ret
      exact ⟨_, rfl, he⟩
theorem exprSize_any : ∀ x, ESize x := by
  refine Ex.ind fun op n nm args ih => ?_
  intro v w hv
  simp only [Ex.op, Ex.n, Ex.name, Ex.args] at *
  have ih' := exprsSize_of args ih
  obtain ⟨a, cap, rfl, hrest⟩ := hv
  have hv : RdExV w 0 false args (.slice a args.length cap) := ⟨a, cap, rfl, hrest⟩
  clear hrest ih
  go_enter Try.func97, Try.ntmps97
  go_wp2_with fail
  · refine (ih' _ _ (hv.ext ((Chg.refl _ _).alloc _))).mono ?_
    rintro e w1 ⟨m, rfl, he⟩
    go_wp2_with fail
    go_ret
    exact ⟨_, rfl, ((Chg.refl _ _).alloc _).trans he⟩
  · go_ret
    exact ⟨_, rfl, (Chg.refl _ _).alloc _⟩
theorem flowSize_any (x : FlD) (v : Value) (w : World) (hv : RdExV w 0 false x.body.args v) :
    Calls Try.prog 83 #[.agg #[.string x.name, .int .u8 x.ty, .int .i64 x.st, .int .i64 x.df, .int .u8 x.body.op, .int .i64 x.body.n, .string x.body.name, v]] w (RetI w) := by
  have ih := exprSize_any x.body
  obtain ⟨a, cap, rfl, hrest⟩ := hv
  have hv : RdExV w 0 false x.body.args (.slice a x.body.args.length cap) := ⟨a, cap, rfl, hrest⟩
  clear hrest
  go_enter Try.func83, Try.ntmps83
  go_wp2_with fail
  · refine (ih _ _ (hv.ext ((Chg.refl _ _).alloc _))).mono ?_
    rintro e w1 ⟨m, rfl, he⟩
    go_wp2_with fail
    go_ret
    exact ⟨_, rfl, ((Chg.refl _ _).alloc _).trans he⟩
  · go_ret
    exact ⟨_, rfl, (Chg.refl _ _).alloc _⟩
theorem flowsSize_any (l : List FlD) (v : Value) (w : World) (h : RdFlV w 0 false l v) : Calls Try.prog 61 #[v] w (RetI w) := by
  have hv := h
  obtain ⟨a, cap, rfl, hf, hl, hm, _⟩ := h
  unfold fitsR at hf
  have hn : l.length ≤ 9000000000000000000 := by omega
  go_enter Try.func61, Try.ntmps61
  go_wp2_with fail
  go_loopw [3, 4] (fun t i wr => ∃ k : Nat, k ≤ l.length ∧ i = .int .i64 k ∧ (∃ m : Int, t = .int .i64 m) ∧ Ext w wr) (fun _ i _ => l.length - (intOf i).toNat)
  case atStart => exact ⟨0, Nat.zero_le _, rfl, ⟨_, rfl⟩, Chg.refl _ _⟩
  case round =>
    obtain ⟨k, hk, rfl, ⟨m, rfl⟩, he⟩ := hrel
    by_cases hlt : k < l.length
    · have hx := List.getElem?_eq_getElem hlt
      obtain ⟨_, _, e, _, _, _, hr, _⟩ := hv.ext he
      simp only [Value.slice.injEq, true_and] at e
      obtain ⟨rfl, rfl⟩ := e
      obtain ⟨_, _, _, _, b, o, rfl, _, hb, c0, c1, c2, c3, _, _, _, v, hvx, c4, c5, c6, c7⟩ := hr k _ hx
      generalize l[k] = x at *
      go_wp2_with fail
      · refine (flowSize_any x v _ hvx).mono ?_
        rintro e w1 ⟨m', rfl, he1⟩
        have he2 : Ext w w1 := he.trans he1
        clear he he1
        go_wp2_with fail
        go_roundw
        case rel => exact ⟨k + 1, by omega, by go_num, ⟨_, rfl⟩, he2⟩
        case measure => simp [intOf]; omega
      · go_ret
        exact ⟨_, rfl, he⟩
    · go_wp2_with fail
      go_ret
      exact ⟨_, rfl, he⟩
theorem progSize_any (p : PrD) (cs : Array Value) (w : World) (h : RdPr w 0 false p cs) : Calls Try.prog 30 #[.agg cs] w (RetI w) := by
  obtain ⟨vi, vf, vo, rfl, _, hi, hf, ho⟩ := h
  obtain ⟨ai, ci, rfl, ri⟩ := hi
  obtain ⟨af, cf, rfl, rf⟩ := hf
  obtain ⟨ao, co, rfl, ro⟩ := ho
  have hi : RdInV w 0 false p.ins (.slice ai p.ins.length ci) := ⟨_, _, rfl, ri⟩
  have hf : RdFlV w 0 false p.flows (.slice af p.flows.length cf) := ⟨_, _, rfl, rf⟩
  have ho : RdStrV w 0 false p.outs (.slice ao p.outs.length co) := ⟨_, _, rfl, ro⟩
  clear ri rf ro
  have e0 := Chg.alloc (Chg.refl (fun _ => False) w) (.cells #[.int .i64 p.st, .slice ai p.ins.length ci, .slice af p.flows.length cf, .slice ao p.outs.length co] 26)
  have q1 : (w.alloc (.cells #[.int .i64 p.st, .slice ai p.ins.length ci, .slice af p.flows.length cf, .slice ao p.outs.length co] 26)).cell? ⟨w.heap.size, 2, none⟩ = some (.slice af p.flows.length cf) := by rw [World.cell?_alloc_at _ _ _ _ rfl]; rfl
  have q2 : (w.alloc (.cells #[.int .i64 p.st, .slice ai p.ins.length ci, .slice af p.flows.length cf, .slice ao p.outs.length co] 26)).cell? ⟨w.heap.size, 3, none⟩ = some (.slice ao p.outs.length co) := by rw [World.cell?_alloc_at _ _ _ _ rfl]; rfl
  go_enter Try.func30, Try.ntmps30
  go_wp2_with fail
  generalize w.alloc (.cells #[.int .i64 p.st, .slice ai p.ins.length ci, .slice af p.flows.length cf, .slice ao p.outs.length co] 26) = w0 at *
  refine (insSize_any _ _ _ (hi.ext e0)).mono ?_
  rintro e w1 ⟨m, rfl, e1⟩
  have E1 : Ext w w1 := e0.trans e1
  have q1' := Ext.cell e1 q1
  have q2' := Ext.cell e1 q2
  clear e0 e1 q1 q2
  go_wp2_with fail
  · refine (flowsSize_any _ _ _ (hf.ext E1)).mono ?_
    rintro e w2 ⟨m2, rfl, e2⟩
    have E2 : Ext w w2 := E1.trans e2
    have q2'' := Ext.cell e2 q2'
    clear E1 e2 q1' q2'
    go_wp2_with fail
    · refine (textsSize_any _ _ _ (ho.ext E2)).mono ?_
      rintro e w3 ⟨m3, rfl, e3⟩
      go_wp2_with fail
      go_ret
      exact ⟨_, rfl, E2.trans e3⟩
    · go_ret
      exact ⟨_, rfl, E2⟩
  · go_ret
    exact ⟨_, rfl, E1⟩
end Go.Proofs.Ytjdficgejjkaoaa
