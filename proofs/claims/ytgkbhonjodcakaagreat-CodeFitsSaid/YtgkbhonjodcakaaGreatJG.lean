/- What the laws need besides. -/
import Derived.Test.YtgkbhonjodcakaaGreatJ0
import Derived.Test.YtgkbhonjodcakaaGreatJ1
import Derived.Test.YtgkbhonjodcakaaGreatJ2
import Derived.Test.YtgkbhonjodcakaaGreatJ3
import Derived.Test.YtgkbhonjodcakaaGreatJ4
import Derived.Test.YtgkbhonjodcakaaGreatJ5
import Derived.Test.YtgkbhonjodcakaaGreatJ6
import Derived.Test.YtgkbhonjodcakaaGreatJ7
import Derived.Test.YtgkbhonjodcakaaGreatJ8
import Derived.Test.YtgkbhonjodcakaaGreatJ9
import Derived.Test.YtgkbhonjodcakaaGreatJ10
import Derived.Test.YtgkbhonjodcakaaGreatJ11
import Derived.Test.YtgkbhonjodcakaaGreatJ12
import Derived.Test.YtgkbhonjodcakaaGreatJ13
import Derived.Test.YtgkbhonjodcakaaGreatJ14
import Derived.Test.YtgkbhonjodcakaaGreatJ15
import Derived.Test.YtgkbhonjodcakaaGreatJ16
import Derived.Test.YtgkbhonjodcakaaGreatJ17
import Derived.Test.YtgkbhonjodcakaaGreatRows
import Derived.Lib.Hide
import Derived.Carry
import Derived.MapKept
import Derived.Maps.AppendAt
import Derived.Laws.EntriesVeiled
import Derived.Deep.RegionHeld3
import Derived.RangeFuncBox
import Derived.Deep.LoopGhost
import Derived.Deep.Cut
import Derived.Deep.CutRange
import Derived.Deep.Slices
import Derived.Deep.Fields
import Derived.ChangeSame
import Derived.SizedLaws
namespace Go.Proofs.YtgkbhonjodcakaaGreat
open Go.RowKit
set_option linter.unusedVariables false

mutual
theorem RdEx.plain {w : World} {lo : Nat} {t : Bool} : ∀ {x : Ex} {cs : List Value}, RdEx w lo t x cs → RdEx w lo false x cs
  | .mk op n nm args, cs, h => by
    unfold RdEx at h ⊢
    obtain ⟨a, cap, rfl, h1, h2, h3, h4, h5, h6, h7, h8⟩ := h
    exact ⟨a, cap, rfl, h1, h2, h3, h4, h5, h6, RdExs.plain h7, fun ht => by simp at ht⟩
theorem RdExs.plain {w : World} {lo : Nat} {t : Bool} {a : Option Addr} : ∀ {l : List Ex} {k : Nat}, RdExs w lo t a k l → RdExs w lo false a k l
  | [], _, _ => by unfold RdExs; trivial
  | x :: r, k, h => by
    unfold RdExs at h ⊢
    obtain ⟨⟨b, o, c0, c1, c2, c3, ha, hlo, hb, k0, k1, k2, k3, hx⟩, hr⟩ := h
    exact ⟨⟨b, o, c0, c1, c2, c3, ha, hlo, hb, k0, k1, k2, k3, RdEx.plain hx⟩, RdExs.plain hr⟩
end
theorem RdExV.plain {w : World} {lo : Nat} {t : Bool} {l : List Ex} {v : Value} (h : RdExV w lo t l v) : RdExV w lo false l v := by
  obtain ⟨a, cap, rfl, h4, h5, h6, h7, h8⟩ := h
  exact ⟨a, cap, rfl, h4, h5, h6, h7.plain, fun ht => by simp at ht⟩
theorem RdStrV.plain {w : World} {lo : Nat} {t : Bool} {l : List ByteArray} {v : Value} (h : RdStrV w lo t l v) : RdStrV w lo false l v := by
  obtain ⟨a, cap, rfl, h4, h5, h6, h7, h8⟩ := h
  exact ⟨a, cap, rfl, h4, h5, h6, h7, fun ht => by simp at ht⟩
theorem RdInV.plain {w : World} {lo : Nat} {t : Bool} {l : List InD} {v : Value} (h : RdInV w lo t l v) : RdInV w lo false l v := by
  obtain ⟨a, cap, rfl, h4, h5, h6, h7, h8⟩ := h
  exact ⟨a, cap, rfl, h4, h5, h6, h7, fun ht => by simp at ht⟩
theorem RdFlV.plain {w : World} {lo : Nat} {t : Bool} {l : List FlD} {v : Value} (h : RdFlV w lo t l v) : RdFlV w lo false l v := by
  obtain ⟨a, cap, rfl, h4, h5, h6, h7, h8⟩ := h
  refine ⟨a, cap, rfl, h4, h5, h6, fun i x hx => ?_, fun ht => by simp at ht⟩
  obtain ⟨h1, h2, h3, h4, b, o, ha, hlo, hb, k0, k1, k2, k3, e1, e2, e3, v, hv, k4, k5, k6, k7⟩ := h7 i x hx
  exact ⟨h1, h2, h3, h4, b, o, ha, hlo, hb, k0, k1, k2, k3, e1, e2, e3, v, hv.plain, k4, k5, k6, k7⟩
theorem RdPr.plain {w : World} {lo : Nat} {t : Bool} {p : PrD} {cs : Array Value} (h : RdPr w lo t p cs) : RdPr w lo false p cs := by
  obtain ⟨vi, vf, vo, rfl, h1, h2, h3, h4⟩ := h
  exact ⟨vi, vf, vo, rfl, h1, h2.plain, h3.plain, h4.plain⟩
end Go.Proofs.YtgkbhonjodcakaaGreat

namespace Go.Proofs.YtgkbhonjodcakaaGreat
open Go.RowKit
set_option linter.unusedVariables false

/-- Some number, in an extended world. -/
def RetI (w : World) (e : Ending) (w' : World) : Prop := ∃ m : Int, e = .returned (.int .i64 m) ∧ Ext w w'
/-- Some answer, in an extended world. -/
def RetB (w : World) (e : Ending) (w' : World) : Prop := ∃ b : Bool, e = .returned (.bool b) ∧ Ext w w'

theorem textsSize_any (l : List ByteArray) (v : Value) (w : World) (h : RdStrV w 0 false l v) : Calls Tryz.prog 61 #[v] w (RetI w) := by
  obtain ⟨a, cap, rfl, hf, hl, hm, hr, _⟩ := h
  unfold fitsR at hf
  have hn : l.length ≤ 9000000000000000000 := by omega
  go_enter Tryz.func61, Tryz.ntmps61
  go_wp2
  go_loop [3, 4] (fun t i => ∃ k : Nat, k ≤ l.length ∧ i = .int .i64 k ∧ ∃ m : Int, t = .int .i64 m) (fun _ i => l.length - (intOf i).toNat)
  case atStart => exact ⟨0, Nat.zero_le _, rfl, _, rfl⟩
  case round =>
    obtain ⟨k, hk, rfl, m, rfl⟩ := hrel
    by_cases hlt : k < l.length
    · obtain ⟨_, b, o, rfl, _, hb, hc⟩ := hr k _ (List.getElem?_eq_getElem hlt)
      go_wp2
      · go_round
        case rel => exact ⟨k + 1, by omega, by go_num, _, rfl⟩
        case measure => simp [intOf]; omega
      · go_ret
        exact ⟨_, rfl, Chg.refl _ _⟩
    · go_wp2
      go_ret
      exact ⟨_, rfl, Chg.refl _ _⟩
theorem insSize_any (l : List InD) (v : Value) (w : World) (h : RdInV w 0 false l v) : Calls Tryz.prog 59 #[v] w (RetI w) := by
  obtain ⟨a, cap, rfl, hf, hl, hm, hr, _⟩ := h
  unfold fitsR at hf
  have hn : l.length ≤ 9000000000000000000 := by omega
  go_enter Tryz.func59, Tryz.ntmps59
  go_wp2
  go_loop [3, 4] (fun t i => ∃ k : Nat, k ≤ l.length ∧ i = .int .i64 k ∧ ∃ m : Int, t = .int .i64 m) (fun _ i => l.length - (intOf i).toNat)
  case atStart => exact ⟨0, Nat.zero_le _, rfl, _, rfl⟩
  case round =>
    obtain ⟨k, hk, rfl, m, rfl⟩ := hrel
    by_cases hlt : k < l.length
    · obtain ⟨_, _, _, b, o, rfl, _, hb, c0, c1, c2⟩ := hr k _ (List.getElem?_eq_getElem hlt)
      go_wp2
      · go_round
        case rel => exact ⟨k + 1, by omega, by go_num, _, rfl⟩
        case measure => simp [intOf]; omega
      · go_ret
        exact ⟨_, rfl, Chg.refl _ _⟩
    · go_wp2
      go_ret
      exact ⟨_, rfl, Chg.refl _ _⟩

/-- ExprSize's contract at x. -/
def ESize (x : Ex) : Prop := ∀ (v : Value) (w : World), RdExV w 0 false x.args v → Calls Tryz.prog 126 #[.agg #[.int .u8 x.op, .int .i64 x.n, .string x.name, v]] w (RetI w)
theorem exprsSize_of (l : List Ex) (ih : ∀ x, x ∈ l → ESize x) (v : Value) (w : World) (h : RdExV w 0 false l v) : Calls Tryz.prog 160 #[v] w (RetI w) := by
  obtain ⟨a, cap, rfl, hrest⟩ := h
  have hv : RdExV w 0 false l (.slice a l.length cap) := ⟨a, cap, rfl, hrest⟩
  obtain ⟨hf, hl, hm, _⟩ := hrest
  unfold fitsR at hf
  have hn : l.length ≤ 9000000000000000000 := by omega
  go_enter Tryz.func160, Tryz.ntmps160
  go_wp2_with fail
  go_loopw [3, 4] (fun t i wr => ∃ k : Nat, k ≤ l.length ∧ i = .int .i64 k ∧ (∃ m : Int, t = .int .i64 m) ∧ Ext w wr) (fun _ i _ => l.length - (intOf i).toNat)
  case atStart => exact ⟨0, Nat.zero_le _, rfl, ⟨_, rfl⟩, Chg.refl _ _⟩
  case round =>
    obtain ⟨k, hk, rfl, ⟨m, rfl⟩, he⟩ := hrel
    by_cases hlt : k < l.length
    · have hx := List.getElem?_eq_getElem hlt
      have hi := ih _ (List.getElem_mem hlt)
      obtain ⟨b, o, v, rfl, _, hb, c0, c1, c2, c3, _, _, _, hvx⟩ := (hv.ext he).get hx
      generalize l[k] = x at *
      go_wp2_with fail
      · refine (hi v _ hvx).mono ?_
        rintro e w1 ⟨m', rfl, he1⟩
        have he2 : Ext w w1 := he.trans he1
        clear he he1
        go_wp2_with fail
        go_roundw
        case rel => exact ⟨k + 1, by omega, by go_num, ⟨_, rfl⟩, he2⟩
        case measure => simp [intOf]; omega
      · go_ret
        exact ⟨_, rfl, he⟩
    · go_wp2_with fail
      go_ret
      exact ⟨_, rfl, he⟩
theorem exprSize_any : ∀ x, ESize x := by
  refine Ex.ind fun op n nm args ih => ?_
  intro v w hv
  simp only [Ex.op, Ex.n, Ex.name, Ex.args] at *
  have ih' := exprsSize_of args ih
  obtain ⟨a, cap, rfl, hrest⟩ := hv
  have hv : RdExV w 0 false args (.slice a args.length cap) := ⟨a, cap, rfl, hrest⟩
  clear hrest ih
  go_enter Tryz.func126, Tryz.ntmps126
  go_wp2_with fail
  · refine (ih' _ _ (hv.ext ((Chg.refl _ _).alloc _))).mono ?_
    rintro e w1 ⟨m, rfl, he⟩
    go_wp2_with fail
    go_ret
    exact ⟨_, rfl, ((Chg.refl _ _).alloc _).trans he⟩
  · go_ret
    exact ⟨_, rfl, (Chg.refl _ _).alloc _⟩
theorem flowSize_any (x : FlD) (v : Value) (w : World) (hv : RdExV w 0 false x.body.args v) :
    Calls Tryz.prog 96 #[.agg #[.string x.name, .int .u8 x.ty, .int .i64 x.st, .int .i64 x.df, .int .u8 x.body.op, .int .i64 x.body.n, .string x.body.name, v]] w (RetI w) := by
  have ih := exprSize_any x.body
  obtain ⟨a, cap, rfl, hrest⟩ := hv
  have hv : RdExV w 0 false x.body.args (.slice a x.body.args.length cap) := ⟨a, cap, rfl, hrest⟩
  clear hrest
  go_enter Tryz.func96, Tryz.ntmps96
  go_wp2_with fail
  · refine (ih _ _ (hv.ext ((Chg.refl _ _).alloc _))).mono ?_
    rintro e w1 ⟨m, rfl, he⟩
    go_wp2_with fail
    go_ret
    exact ⟨_, rfl, ((Chg.refl _ _).alloc _).trans he⟩
  · go_ret
    exact ⟨_, rfl, (Chg.refl _ _).alloc _⟩
theorem flowsSize_any (l : List FlD) (v : Value) (w : World) (h : RdFlV w 0 false l v) : Calls Tryz.prog 60 #[v] w (RetI w) := by
  have hv := h
  obtain ⟨a, cap, rfl, hf, hl, hm, _⟩ := h
  unfold fitsR at hf
  have hn : l.length ≤ 9000000000000000000 := by omega
  go_enter Tryz.func60, Tryz.ntmps60
  go_wp2_with fail
  go_loopw [3, 4] (fun t i wr => ∃ k : Nat, k ≤ l.length ∧ i = .int .i64 k ∧ (∃ m : Int, t = .int .i64 m) ∧ Ext w wr) (fun _ i _ => l.length - (intOf i).toNat)
  case atStart => exact ⟨0, Nat.zero_le _, rfl, ⟨_, rfl⟩, Chg.refl _ _⟩
  case round =>
    obtain ⟨k, hk, rfl, ⟨m, rfl⟩, he⟩ := hrel
    by_cases hlt : k < l.length
    · have hx := List.getElem?_eq_getElem hlt
      obtain ⟨_, _, e, _, _, _, hr, _⟩ := hv.ext he
      simp only [Value.slice.injEq, true_and] at e
      obtain ⟨rfl, rfl⟩ := e
      obtain ⟨_, _, _, _, b, o, rfl, _, hb, c0, c1, c2, c3, _, _, _, v, hvx, c4, c5, c6, c7⟩ := hr k _ hx
      generalize l[k] = x at *
      go_wp2_with fail
      · refine (flowSize_any x v _ hvx).mono ?_
        rintro e w1 ⟨m', rfl, he1⟩
        have he2 : Ext w w1 := he.trans he1
        clear he he1
        go_wp2_with fail
        go_roundw
        case rel => exact ⟨k + 1, by omega, by go_num, ⟨_, rfl⟩, he2⟩
        case measure => simp [intOf]; omega
      · go_ret
        exact ⟨_, rfl, he⟩
    · go_wp2_with fail
      go_ret
      exact ⟨_, rfl, he⟩
theorem progSize_any (p : PrD) (cs : Array Value) (w : World) (h : RdPr w 0 false p cs) : Calls Tryz.prog 19 #[.agg cs] w (RetI w) := by
  obtain ⟨vi, vf, vo, rfl, _, hi, hf, ho⟩ := h
  obtain ⟨ai, ci, rfl, ri⟩ := hi
  obtain ⟨af, cf, rfl, rf⟩ := hf
  obtain ⟨ao, co, rfl, ro⟩ := ho
  have hi : RdInV w 0 false p.ins (.slice ai p.ins.length ci) := ⟨_, _, rfl, ri⟩
  have hf : RdFlV w 0 false p.flows (.slice af p.flows.length cf) := ⟨_, _, rfl, rf⟩
  have ho : RdStrV w 0 false p.outs (.slice ao p.outs.length co) := ⟨_, _, rfl, ro⟩
  clear ri rf ro
  have e0 := Chg.alloc (Chg.refl (fun _ => False) w) (.cells #[.int .i64 p.st, .slice ai p.ins.length ci, .slice af p.flows.length cf, .slice ao p.outs.length co] 26)
  have q1 : (w.alloc (.cells #[.int .i64 p.st, .slice ai p.ins.length ci, .slice af p.flows.length cf, .slice ao p.outs.length co] 26)).cell? ⟨w.heap.size, 2, none⟩ = some (.slice af p.flows.length cf) := by rw [World.cell?_alloc_at _ _ _ _ rfl]; rfl
  have q2 : (w.alloc (.cells #[.int .i64 p.st, .slice ai p.ins.length ci, .slice af p.flows.length cf, .slice ao p.outs.length co] 26)).cell? ⟨w.heap.size, 3, none⟩ = some (.slice ao p.outs.length co) := by rw [World.cell?_alloc_at _ _ _ _ rfl]; rfl
  go_enter Tryz.func19, Tryz.ntmps19
  go_wp2_with fail
  generalize w.alloc (.cells #[.int .i64 p.st, .slice ai p.ins.length ci, .slice af p.flows.length cf, .slice ao p.outs.length co] 26) = w0 at *
  refine (insSize_any _ _ _ (hi.ext e0)).mono ?_
  rintro e w1 ⟨m, rfl, e1⟩
  have E1 : Ext w w1 := e0.trans e1
  have q1' := Ext.cell e1 q1
  have q2' := Ext.cell e1 q2
  clear e0 e1 q1 q2
  go_wp2_with fail
  · refine (flowsSize_any _ _ _ (hf.ext E1)).mono ?_
    rintro e w2 ⟨m2, rfl, e2⟩
    have E2 : Ext w w2 := E1.trans e2
    have q2'' := Ext.cell e2 q2'
    clear E1 e2 q1' q2'
    go_wp2_with fail
    · refine (textsSize_any _ _ _ (ho.ext E2)).mono ?_
      rintro e w3 ⟨m3, rfl, e3⟩
      go_wp2_with fail
      go_ret
      exact ⟨_, rfl, E2.trans e3⟩
    · go_ret
      exact ⟨_, rfl, E2⟩
  · go_ret
    exact ⟨_, rfl, E1⟩
end Go.Proofs.YtgkbhonjodcakaaGreat

namespace Go.Proofs.YtgkbhonjodcakaaGreat
open Go.RowKit
set_option linter.unusedVariables false
set_option linter.unusedSimpArgs false

theorem Way.start (p : PrD) : Way p (List.replicate p.flows.length 0) := by
  refine ⟨by simp, fun n hn => ?_, fun m hm i => ?_⟩
  · rw [List.eq_of_mem_replicate hn]; omega
  · have := (getD_rng hm.2.1 i).1
    rw [List.getD_eq_getElem?_getD, List.getElem?_replicate]
    split <;> simpa using this
/-- How much is left to grow. -/
def leftS : List Int → Nat
  | [] => 0
  | n :: r => (1000 - n).toNat + leftS r
theorem leftS_set : ∀ {l : List Int} {k : Nat} {n : Int}, k < l.length → l.getD k 0 < n → n ≤ 1000 → leftS (l.set k n) < leftS l
  | [], _, _, h, _, _ => by simp at h
  | m :: r, 0, n, h, h1, h2 => by
    simp only [List.set_cons_zero, leftS]
    simp at h1
    omega
  | m :: r, k + 1, n, h, h1, h2 => by
    simp only [List.set_cons_succ, leftS]
    have := leftS_set (l := r) (k := k) (n := n) (by simpa using h) (by simpa using h1) h2
    omega
/-- The plain answer of Of: an error, or the least that fit. -/
def LateA (p : PrD) (l : List Int) (e : Int) : Prop := if namesP p = 0 then (e = 0 ∧ Least p l) ∨ (e = 10 ∧ l = [] ∧ ∀ m, ¬ Fits p m) else e = namesP p ∧ l = []
theorem asksL_len (p : PrD) : ∀ (l : List FlD) (i : Nat), (∀ x, x ∈ l → nodesE x.body ≤ 200) → (asksL p i l).length ≤ l.length * 200
  | [], i, _ => by simp [asksL]
  | x :: r, i, h => by
    have h1 := asksL_len p r (i + 1) (fun y hy => h y (List.mem_cons_of_mem _ hy))
    have h2 := gthE_le x.body [] 0
    have h3 := h x List.mem_cons_self
    simp only [asksL, List.length_append, asksOf, List.length_map, List.length_cons]
    simp at h2
    omega
theorem asksP_len {p : PrD} (hp : progP p = true) : (asksP p).length ≤ 25600 := by
  obtain ⟨_, hl, _, hok, _⟩ := prog_ok hp
  have := asksL_len p p.flows 0 (fun x hx => (ok_wf' (hok x hx)).2)
  unfold asksP
  omega
end Go.Proofs.YtgkbhonjodcakaaGreat

namespace Go.Proofs.YtgkbhonjodcakaaGreat
open Go.RowKit
set_option linter.unusedVariables false
set_option linter.unusedSimpArgs false

theorem stations_nodup (n : Int) : (stationsL n).Nodup := by
  unfold stationsL
  exact List.Pairwise.map _ (fun a b (h : a ≠ b) => by show (a : Int) + 1 ≠ (b : Int) + 1; omega) (List.nodup_range)
theorem in_station {p : PrD} (h : progP p = true) {x : InD} (hx : x ∈ p.ins) : 1 ≤ x.st ∧ x.st ≤ p.st := by
  have := (progP_parts.1 h).2.1 x hx
  simp only [inBad, mayP, Bool.not_eq_false', Bool.and_eq_true, decide_eq_true_eq] at this
  exact ⟨this.1.2, this.2⟩
theorem site_station {p : PrD} (h : progP p = true) {x : ByteArray × Int} (hx : x ∈ sitesP p) : 1 ≤ x.2 ∧ x.2 ≤ p.st := by
  rcases List.mem_append.1 hx with hx | hx
  · obtain ⟨y, hy, rfl⟩ := List.mem_map.1 hx
    exact in_station h hy
  · obtain ⟨y, hy, rfl⟩ := List.mem_map.1 hx
    exact fl_station h hy
theorem own_nodup {p : PrD} (h : okN p) (st : Int) : (ownN p st).Nodup := by
  have hn := h.1
  rw [← sites_names] at hn
  unfold ownN
  exact hn.sublist ((List.filter_sublist (l := sitesP p)).map _)
theorem own_st {p : PrD} (h : okN p) {s : ByteArray} {st : Int} (hs : s ∈ ownN p st) : stOf p s = st := (find_site h (own_mem.1 hs)).1
theorem flat_nodup {α β : Type} {l : List α} {f : α → List β} {g : β → α} (hn : l.Nodup) (h1 : ∀ a, a ∈ l → (f a).Nodup) (h2 : ∀ a b, a ∈ l → b ∈ f a → g b = a) : (l.flatMap f).Nodup := by
  induction l with
  | nil => simp
  | cons a r ih =>
    rw [List.flatMap_cons, List.nodup_append]
    refine ⟨h1 a (by simp), ih (List.nodup_cons.1 hn).2 (fun b hb => h1 b (by simp [hb])) (fun b c hb => h2 b c (by simp [hb])), fun x hx y hy e => ?_⟩
    subst e
    obtain ⟨b, hb, hy⟩ := List.mem_flatMap.1 hy
    have e1 := h2 a x (by simp) hx
    have e2 := h2 b x (by simp [hb]) hy
    exact (List.nodup_cons.1 hn).1 (by rw [← e1, e2]; exact hb)
theorem needs_nodup {p : PrD} (h : namesP p = 0) (st : Int) : (needsP p st).Nodup := by
  unfold needsP
  rw [if_pos h]
  refine flat_nodup (g := stOf p) (stations_nodup _) (fun t _ => ?_) (fun t s _ hs => ?_)
  · unfold needsAt
    split
    · simp
    · exact (own_nodup (names_okN h) t).sublist List.filter_sublist
  · unfold needsAt at hs
    split at hs
    · simp at hs
    · exact own_st (names_okN h) (List.mem_filter.1 hs).1
theorem needs_st {p : PrD} (h : namesP p = 0) {st : Int} {s : ByteArray} (hs : s ∈ needsP p st) : stOf p s ≠ st := by
  obtain ⟨t, _, _, h3, h4, _⟩ := (needs_mem h).1 hs
  rw [own_st (names_okN h) h4]
  exact h3
theorem all_nodup {p : PrD} (h : namesP p = 0) (st : Int) : (allN p st).Nodup := by
  unfold allN
  rw [List.nodup_append]
  refine ⟨own_nodup (names_okN h) st, needs_nodup h st, fun x hx y hy e => ?_⟩
  subst e
  exact needs_st h hy (own_st (names_okN h) hx)
end Go.Proofs.YtgkbhonjodcakaaGreat

namespace Go.Proofs.YtgkbhonjodcakaaGreat
open Go.RowKit
set_option linter.unusedVariables false

theorem infoInt : (Tryz.prog.info? 3).map (fun i => (i.zero, i.size, i.bytes)) = some (some (.int .i64 0), 1, 8) := by kernel_rfl
end Go.Proofs.YtgkbhonjodcakaaGreat

namespace Go.Proofs.YtgkbhonjodcakaaGreat
open Go.RowKit
set_option linter.unusedVariables false
set_option linter.unusedSimpArgs false

theorem run_append (ps : List PlD) : ∀ (a b : List IsD) (pile : List Int), runP ps (a ++ b) pile = (runP ps a pile).bind (runP ps b)
  | [], b, pile => rfl
  | x :: a, b, pile => by
    rw [List.cons_append, run_cons, run_cons, Option.bind_assoc]
    congr 1
    funext q
    exact run_append ps a b q
theorem end_true {o : Option (List Int)} {t : Int} (h : endP o = (t, true)) : o = some [t] := by
  unfold endP at h
  split at h
  · simp only [Prod.mk.injEq, and_true] at h; rw [h]
  · simp at h
theorem chk_true {ps : List PlD} {l : List IsD} {t : Int} (h : chkC ps l = (t, true)) : placesOk ps = true ∧ l.length ≤ 800 ∧ runP ps l [] = some [t] := by
  unfold chkC at h
  by_cases hc : placesOk ps = true ∧ l.length ≤ 800
  · rw [if_pos hc] at h; exact ⟨hc.1, hc.2, end_true h⟩
  · rw [if_neg hc] at h; simp at h
theorem chk_of {ps : List PlD} {l : List IsD} {t : Int} (h1 : placesOk ps = true) (h2 : l.length ≤ 800) (h3 : runP ps l [] = some [t]) : chkC ps l = (t, true) := by
  unfold chkC; rw [if_pos ⟨h1, h2⟩, h3]; rfl
end Go.Proofs.YtgkbhonjodcakaaGreat

namespace Go.Proofs.YtgkbhonjodcakaaGreat
open Go.RowKit
set_option linter.unusedVariables false
set_option linter.unusedSimpArgs false

theorem RdIntV.plain {w : World} {lo : Nat} {t : Bool} {l : List Int} {v : Value} (h : RdIntV w lo t l v) : RdIntV w lo false l v := by
  obtain ⟨a, cap, rfl, h4, h5, h6, h7, h8⟩ := h
  exact ⟨a, cap, rfl, h4, h5, h6, h7, fun ht => by simp at ht⟩
end Go.Proofs.YtgkbhonjodcakaaGreat

namespace Go.Proofs.YtgkbhonjodcakaaGreat
open Go.RowKit
set_option linter.unusedVariables false

def exP (p : Ex × Value) : List Value := [.int .u8 p.1.op, .int .i64 p.1.n, .string p.1.name, p.2]
end Go.Proofs.YtgkbhonjodcakaaGreat

namespace Go.Proofs.YtgkbhonjodcakaaGreat
open Go.RowKit
set_option linter.unusedVariables false
set_option linter.unusedSimpArgs false

theorem stepR_mem {l : List Rf} {op : Int} {nm : ByteArray} {ago : Int} {r : Rf} : r ∈ stepR l op nm ago ↔ r ∈ l ∨ (op = 3 ∧ r = (nm, ago)) := by
  unfold stepR
  by_cases h : op = 3
  · cases hb : (l.any fun r => decide (r = (nm, ago)))
    · rw [if_pos ⟨h, rfl⟩, List.mem_append, List.mem_singleton]
      simp [h]
    · rw [if_neg (fun h => by simp at h)]
      constructor
      · exact .inl
      · rintro (h | ⟨_, rfl⟩)
        · exact h
        · obtain ⟨y, hy, e⟩ := List.any_eq_true.1 hb
          have e : y = (nm, ago) := by simpa using e
          rw [← e]; exact hy
  · rw [if_neg (fun h' => h h'.1)]
    simp [h]
mutual
theorem gthE_mem : ∀ (x : Ex) (l : List Rf) (ago : Int) (r : Rf), r ∈ gthE l ago x ↔ r ∈ l ∨ r ∈ gthE [] ago x
  | .mk op n nm args, l, ago, r => by
    rw [gthE, gthE, gthL_mem args (stepR l op nm ago), gthL_mem args (stepR [] op nm ago), stepR_mem, stepR_mem]
    simp only [List.not_mem_nil, false_or, or_assoc]
theorem gthL_mem : ∀ (xs : List Ex) (l : List Rf) (ago : Int) (r : Rf), r ∈ gthL l ago xs ↔ r ∈ l ∨ r ∈ gthL [] ago xs
  | [], l, ago, r => by simp [gthL]
  | x :: xs, l, ago, r => by
    rw [gthL, gthL, gthL_mem xs (gthE l ago x), gthL_mem xs (gthE [] ago x), gthE_mem x l ago r]
    simp only [or_assoc]
end
theorem each_ne {a b : Int} {l : List Int} (h : eachT a b l ≠ 0) : ∀ t, t ∈ l → t = a := by
  intro t ht
  unfold eachT at h
  split at h
  · exact absurd rfl h
  · rename_i hh
    have h2 : (l.any fun t => !decide (t = a)) = false := by simpa using hh
    have := List.any_eq_false.1 h2 t ht
    simpa using this
theorem alike_ne {l : List Int} (h : alikeT l = true) : ∀ t, t ∈ l → t = l.headD 0 ∧ t ≠ 0 := by
  intro t ht
  unfold alikeT at h
  rw [Bool.not_eq_true', List.any_eq_false] at h
  have := h t ht
  simpa using this
/-- What the types' rules leave, the instructions' leave. -/
theorem leave_rule {op : Int} {l : List Int} (h : ruleT op l ≠ 0) (ho : op ≠ 19) (hl : 1 ≤ l.length) (h17 : op = 17 → l.length = 3) : leaveT op l = ruleT op l ∧ ∀ t, t ∈ l → t ≠ 0 := by
  have hd : l.headD 0 ∈ l := by cases l with | nil => simp at hl | cons a r => simp
  have key : alikeT l = true → alikC l = l.headD 0 ∧ l.headD 0 ≠ 0 := fun ha => by
    refine ⟨?_, (alike_ne ha _ hd).2⟩
    unfold alikC eachT
    rw [if_neg]
    intro hh
    obtain ⟨t, ht, e⟩ := List.any_eq_true.1 hh
    have := (alike_ne ha t ht).1
    simp [this] at e
  unfold ruleT at h ⊢
  unfold leaveT
  by_cases c1 : op = 4 ∨ op = 6 ∨ op = 7 ∨ op = 8 ∨ op = 9 ∨ op = 10
  · rw [if_pos c1] at h
    rw [if_pos c1, if_pos c1]
    exact ⟨rfl, fun t ht => by rw [each_ne h t ht]; decide⟩
  rw [if_neg c1] at h
  rw [if_neg c1, if_neg c1]
  by_cases c2 : op = 5 ∨ op = 15 ∨ op = 16
  · rw [if_pos c2] at h
    rw [if_pos c2, if_pos c2]
    exact ⟨rfl, fun t ht => by rw [each_ne h t ht]; decide⟩
  rw [if_neg c2] at h
  rw [if_neg c2, if_neg c2]
  by_cases c3 : op = 13 ∨ op = 14
  · rw [if_pos c3] at h
    rw [if_pos c3, if_pos c3]
    exact ⟨rfl, fun t ht => by rw [each_ne h t ht]; decide⟩
  rw [if_neg c3] at h
  rw [if_neg c3, if_neg c3]
  by_cases c4 : op = 11 ∨ op = 12
  · rw [if_pos c4] at h
    rw [if_pos c4, if_neg (by omega), if_pos c4]
    unfold equalT at h ⊢
    cases ha : alikeT l
    · rw [ha] at h; simp at h
    · obtain ⟨k1, k2⟩ := key ha
      unfold eqC
      rw [k1, if_neg k2, if_pos rfl]
      exact ⟨rfl, fun t ht => (alike_ne ha t ht).2⟩
  rw [if_neg c4] at h
  rw [if_neg c4, if_neg c4]
  by_cases c5 : op = 18 ∨ op = 19
  · rw [if_pos c5] at h
    rw [if_pos c5, if_pos (by omega)]
    unfold sameT at h ⊢
    cases ha : alikeT l
    · rw [ha] at h; simp at h
    · obtain ⟨k1, k2⟩ := key ha
      rw [k1, if_pos rfl]
      exact ⟨rfl, fun t ht => (alike_ne ha t ht).2⟩
  rw [if_neg c5] at h
  rw [if_neg c5, if_neg (by omega)]
  by_cases c6 : op = 17
  · rw [if_pos c6] at h
    rw [if_pos c6, if_pos c6]
    match l, h17 c6 with
    | [a, b, c], _ =>
      have e0 : ifT [a, b, c] = if a = 2 then sameT [b, c] else 0 := rfl
      have e1 : ifC [a, b, c] = if a = 2 then alikC [b, c] else 0 := rfl
      rw [e0] at h ⊢
      rw [e1]
      by_cases ha : a = 2
      · rw [if_pos ha] at h
        rw [if_pos ha, if_pos ha]
        unfold sameT at h ⊢
        cases hb : alikeT [b, c]
        · rw [hb] at h; simp at h
        · have hbb := (alike_ne hb b (by simp)).2
          have hcc := alike_ne hb c (by simp)
          simp only [List.headD_cons] at hcc
          obtain ⟨e, hc0⟩ := hcc
          subst e
          refine ⟨by simp [alikC, eachT], fun t ht => ?_⟩
          simp only [List.mem_cons, List.not_mem_nil, or_false] at ht
          rcases ht with rfl | rfl | rfl
          · rw [ha]; decide
          · exact hc0
          · exact hc0
      · rw [if_neg ha] at h; exact absurd rfl h
  · rw [if_neg c6] at h; exact absurd rfl h
theorem rule_19 {t : Int} : ruleT 19 [t] = t := by
  by_cases h : t = 0
  · subst h; decide
  · simp [ruleT, sameT, alikeT, h]
theorem rule_op {op : Int} {l : List Int} (h : ruleT op l ≠ 0) : 4 ≤ op ∧ op ≤ 19 := by
  unfold ruleT at h
  repeat' split at h
  all_goals first | omega | exact absurd rfl h
theorem parts_many {op : Int} (h1 : 4 ≤ op) (h2 : op ≤ 18) : (manyP op : Int) = partsP op ∧ 1 ≤ manyP op := by
  have ho : op = 4 ∨ op = 5 ∨ op = 6 ∨ op = 7 ∨ op = 8 ∨ op = 9 ∨ op = 10 ∨ op = 11 ∨ op = 12 ∨ op = 13 ∨ op = 14 ∨ op = 15 ∨ op = 16 ∨ op = 17 ∨ op = 18 := by omega
  rcases ho with rfl | rfl | rfl | rfl | rfl | rfl | rfl | rfl | rfl | rfl | rfl | rfl | rfl | rfl | rfl <;> decide
/-- A name's place is there, and is kept long enough. -/
def GoodR (p : PrD) (ps : List PlD) (at_ : ByteArray → Int) (age : ByteArray → Int → Int) (r : Rf) : Prop :=
  0 ≤ at_ r.1 ∧ ∃ q, ps[(at_ r.1).toNat]? = some q ∧ q.ty = tyOf p r.1 ∧ 0 ≤ age r.1 r.2 ∧ age r.1 r.2 ≤ q.keep
theorem step_push {ps : List PlD} {x : IsD} {pile : List Int} {t : Int} (hm : manyP x.op = 0) (h : pushP ps x = t) (ht : t ≠ 0) : runP ps [x] pile = some (pile ++ [t]) := by
  have hs : stepI ps x pile = t := by unfold stepI; rw [if_pos hm, h]
  rw [run_cons]
  unfold stepJ
  rw [hs, if_neg ht, Option.bind_some, hm, Nat.sub_zero, List.take_length]
  rfl
mutual
theorem code_run {p : PrD} {ps : List PlD} {at_ : ByteArray → Int} {age : ByteArray → Int → Int} : ∀ (x : Ex) (d : Nat) (ago : Int) (pile : List Int), wfE d x = true → 0 ≤ ago → ago + d ≤ 32 →
    (∀ r, r ∈ gthE [] ago x → GoodR p ps at_ age r) → tyE p x ≠ 0 → runP ps (codeE at_ age ago x) pile = some (pile ++ [tyE p x])
  | .mk op n nm args, d, ago, pile, hw, h0, h1, hg, ht => by
    cases d with
    | zero => simp [wfE] at hw
    | succ d =>
      simp only [wfE, Bool.and_eq_true, decide_eq_true_eq] at hw
      obtain ⟨⟨hpa, hhd⟩, hwl⟩ := hw
      rw [gthE] at hg
      rw [tyE] at ht ⊢
      rw [codeE]
      by_cases o1 : op = 1
      · subst o1
        have hz : partsP 1 = 0 := by decide
        have hl : args = [] := List.length_eq_zero_iff.1 (by omega)
        subst hl
        simp only [codeL, List.nil_append, if_true]
        rw [if_neg (by omega)]
        exact step_push (by simp [lastI]; decide) (by simp [lastI, pushP]) (by decide)
      rw [if_neg o1] at ht ⊢
      by_cases o2 : op = 2
      · subst o2
        have hz : partsP 2 = 0 := by decide
        have hl : args = [] := List.length_eq_zero_iff.1 (by omega)
        subst hl
        simp only [codeL, List.nil_append, if_true]
        rw [if_neg (by omega)]
        have hn : n = 0 ∨ n = 1 := by
          have e : headP 2 n nm = ((decide (n = 0) || decide (n = 1)) && nm.toList.isEmpty) := rfl
          rw [e, Bool.and_eq_true, Bool.or_eq_true, decide_eq_true_eq, decide_eq_true_eq] at hhd
          exact hhd.1
        exact step_push (by simp [lastI]; decide) (by simp [lastI, pushP, hn]) (by decide)
      rw [if_neg o2] at ht ⊢
      by_cases o3 : op = 3
      · subst o3
        have hz : partsP 3 = 0 := by decide
        have hl : args = [] := List.length_eq_zero_iff.1 (by omega)
        subst hl
        rw [if_pos rfl] at ht
        simp only [codeL, List.nil_append, if_true]
        rw [if_neg (by omega)]
        obtain ⟨g1, q, g2, g3, g4, g5⟩ := hg (nm, ago) (by rw [gthL, stepR_mem]; exact .inr ⟨rfl, rfl⟩)
        have hty : nameT p nm = q.ty := by
          unfold nameT at ht ⊢
          rw [g3]
          split
          · rename_i hh; rw [if_pos hh] at ht; exact absurd rfl ht
          · rfl
        refine step_push (by simp [lastI]; decide) ?_ ht
        simp only [lastI, pushP, if_true]
        rw [if_neg (by omega), if_neg (by omega), if_pos ⟨g1, g4⟩, g2]
        show (if age nm ago ≤ q.keep then q.ty else 0) = _
        rw [if_pos g5, hty]
      rw [if_neg o3] at ht ⊢
      have hops := rule_op ht
      have hst : stepR [] op nm ago = [] := by unfold stepR; rw [if_neg (fun h => o3 h.1)]
      rw [hst] at hg
      have hlen := tyL_len p args
      by_cases o19 : op = 19
      · subst o19
        rw [if_pos rfl, List.append_nil]
        have hz : partsP 19 = 1 := by decide
        have hp1 : args.length = 1 := by omega
        obtain ⟨x, rfl⟩ := List.length_eq_one_iff.1 hp1
        have hag : agoP 19 ago = ago + 1 := by
          unfold agoP wrap64; rw [if_pos rfl]; omega
        rw [hag] at hg ⊢
        simp only [tyL] at ht ⊢
        rw [rule_19] at ht ⊢
        simp only [wfL, Bool.and_true] at hwl
        simp only [codeL, List.append_nil]
        refine code_run x d (ago + 1) pile hwl (by omega) (by omega) (fun r hr => hg r ?_) ht
        simp only [gthL]
        exact hr
      · rw [if_neg o19]
        have hag : agoP op ago = ago := by unfold agoP; rw [if_neg o19]
        rw [hag] at hg ⊢
        obtain ⟨hm1, hm2⟩ := parts_many hops.1 (by omega)
        obtain ⟨hlv, hne⟩ := leave_rule ht o19 (by rw [hlen]; omega) (fun h => by
          subst h
          have : partsP 17 = 3 := by decide
          rw [hlen]; omega)
        rw [run_append, codeL_run args d ago pile hwl h0 (by omega) hg hne, Option.bind_some, run_cons]
        have hn0 : n = 0 := by
          simp only [headP] at hhd
          rw [if_neg o1, if_neg o2, if_neg o3, Bool.and_eq_true, decide_eq_true_eq] at hhd
          exact hhd.1
        have hla : (lastI at_ age op n nm ago) = ⟨op, 0, if op = 18 then ago else 0⟩ := by
          unfold lastI
          rw [if_neg o3, hn0]
          split <;> rfl
        rw [hla]
        have hmm : manyP op = (tyL p args).length := by rw [hlen]; omega
        have hs : stepI ps ⟨op, 0, if op = 18 then ago else 0⟩ (pile ++ tyL p args) = ruleT op (tyL p args) := by
          unfold stepI
          simp only
          rw [if_neg (by omega), if_pos ⟨by rw [List.length_append]; omega, trivial, by split <;> omega, by unfold mostP; split <;> omega⟩, hmm, List.length_append, Nat.add_sub_cancel, List.drop_append_of_le_length (Nat.le_refl _), List.drop_length, List.nil_append, hlv]
        unfold stepJ
        rw [hs, if_neg ht, Option.bind_some]
        simp only
        rw [hmm, List.length_append, Nat.add_sub_cancel, List.take_append_of_le_length (Nat.le_refl _), List.take_length]
        rfl
theorem codeL_run {p : PrD} {ps : List PlD} {at_ : ByteArray → Int} {age : ByteArray → Int → Int} : ∀ (xs : List Ex) (d : Nat) (ago : Int) (pile : List Int), wfL d xs = true → 0 ≤ ago → ago + d ≤ 32 →
    (∀ r, r ∈ gthL [] ago xs → GoodR p ps at_ age r) → (∀ t, t ∈ tyL p xs → t ≠ 0) → runP ps (codeL at_ age ago xs) pile = some (pile ++ tyL p xs)
  | [], d, ago, pile, _, _, _, _, _ => by simp [codeL, tyL, runP]
  | x :: xs, d, ago, pile, hw, h0, h1, hg, ht => by
    simp only [wfL, Bool.and_eq_true] at hw
    rw [gthL] at hg
    have hg' := fun r => hg r
    rw [codeL, tyL, run_append, code_run x d ago pile hw.1 h0 h1 (fun r hr => hg r ((gthL_mem xs _ ago r).2 (.inl hr))) (ht _ (by rw [tyL]; simp)), Option.bind_some,
      codeL_run xs d ago (pile ++ [tyE p x]) hw.2 h0 h1 (fun r hr => hg r ((gthL_mem xs _ ago r).2 (.inr hr))) (fun t h => ht t (by rw [tyL]; simp [h])), List.append_assoc]
    rfl
end
/-- What is kept is as much as each that is asked for asks. -/
theorem keepF_ge (p : PrD) (l : List Int) (i : Nat) (nm : ByteArray) : ∀ (refs : List Rf) (a : Int), a ≤ keepF p l i nm a refs ∧ ∀ r, r ∈ refs → r.1 = nm → (ageP p l i r).1 ≤ keepF p l i nm a refs
  | [], a => ⟨Int.le_refl _, fun r hr => by cases hr⟩
  | y :: refs, a => by
    have e : keepF p l i nm a (y :: refs) = keepF p l i nm (if y.1 = nm then max a (ageP p l i y).1 else a) refs := rfl
    obtain ⟨h1, h2⟩ := keepF_ge p l i nm refs (if y.1 = nm then max a (ageP p l i y).1 else a)
    rw [e]
    have ha : a ≤ (if y.1 = nm then max a (ageP p l i y).1 else a) := by split <;> omega
    refine ⟨by omega, fun r hr hn => ?_⟩
    rcases List.mem_cons.1 hr with rfl | hr
    · rw [if_pos hn] at h1 ⊢
      omega
    · exact h2 r hr hn
theorem keepG_ge (p : PrD) (l : List Int) (st : Int) (nm : ByteArray) : ∀ (fl : List FlD) (i : Nat) (a : Int), a ≤ keepG p l st nm i fl a ∧ ∀ k f r, fl[k]? = some f → f.st = st → r ∈ gthE [] 0 f.body → r.1 = nm → (ageP p l ((i + k : Nat) : Int) r).1 ≤ keepG p l st nm i fl a
  | [], i, a => ⟨Int.le_refl _, fun k f r h => by simp at h⟩
  | g :: fl, i, a => by
    have e : keepG p l st nm i (g :: fl) a = keepG p l st nm (i + 1) fl (if g.st = st then keepF p l i nm a (gthE [] 0 g.body) else a) := rfl
    obtain ⟨h1, h2⟩ := keepG_ge p l st nm fl (i + 1) (if g.st = st then keepF p l i nm a (gthE [] 0 g.body) else a)
    obtain ⟨k1, k2⟩ := keepF_ge p l i nm (gthE [] 0 g.body) a
    rw [e]
    have ha : a ≤ (if g.st = st then keepF p l i nm a (gthE [] 0 g.body) else a) := by split <;> omega
    refine ⟨by omega, fun k f r hk hs hr hn => ?_⟩
    cases k with
    | zero =>
      simp only [List.getElem?_cons_zero, Option.some.injEq] at hk
      subst hk
      rw [if_pos hs] at h1 ⊢
      have := k2 r hr hn
      rw [Nat.add_zero]
      omega
    | succ k =>
      have := h2 k f r (by simpa using hk) hs hr hn
      rw [show i + (k + 1) = i + 1 + k from by omega]
      exact this
theorem keepP_ge {p : PrD} {l : List Int} {k : Nat} {f : FlD} {r : Rf} (hk : p.flows[k]? = some f) (hr : r ∈ gthE [] 0 f.body) : (ageP p l k r).1 ≤ keepP p l f.st r.1 := by
  have := (keepG_ge p l f.st r.1 p.flows 0 0).2 k f r hk rfl hr rfl
  rw [Nat.zero_add] at this
  exact this
theorem keepF_le {p : PrD} {l : List Int} {i : Nat} {nm : ByteArray} {m : Int} : ∀ {refs : List Rf} {a : Int}, a ≤ m → (∀ r, r ∈ refs → (ageP p l i r).1 ≤ m) → keepF p l i nm a refs ≤ m
  | [], a, ha, _ => ha
  | y :: refs, a, ha, h => by
    have e : keepF p l i nm a (y :: refs) = keepF p l i nm (if y.1 = nm then max a (ageP p l i y).1 else a) refs := rfl
    rw [e]
    refine keepF_le ?_ (fun r hr => h r (by simp [hr]))
    have := h y (by simp)
    split <;> omega
theorem keepG_le {p : PrD} {l : List Int} {st : Int} {nm : ByteArray} {m : Int} : ∀ {fl : List FlD} {i : Nat} {a : Int}, a ≤ m → (∀ k f r, fl[k]? = some f → r ∈ gthE [] 0 f.body → (ageP p l ((i + k : Nat) : Int) r).1 ≤ m) → keepG p l st nm i fl a ≤ m
  | [], i, a, ha, _ => ha
  | g :: fl, i, a, ha, h => by
    have e : keepG p l st nm i (g :: fl) a = keepG p l st nm (i + 1) fl (if g.st = st then keepF p l i nm a (gthE [] 0 g.body) else a) := rfl
    rw [e]
    refine keepG_le ?_ (fun k f r hk hr => ?_)
    · split
      · exact keepF_le ha (fun r hr => by have := h 0 g r rfl hr; rwa [Nat.add_zero] at this)
      · exact ha
    · have := h (k + 1) f r (by simpa using hk) hr
      rwa [show i + (k + 1) = i + 1 + k from by omega] at this
theorem keepP_rng {p : PrD} {l : List Int} (h : lateChk p l = true) (st : Int) (nm : ByteArray) : 0 ≤ keepP p l st nm ∧ keepP p l st nm ≤ 2000 := by
  refine ⟨(keepG_ge p l st nm p.flows 0 0).1, keepG_le (by omega) (fun k f r hk hr => ?_)⟩
  rw [Nat.zero_add]
  exact (age_rng h hk hr).2
/-- A flow's station has all that the flow asks for. -/
theorem asked_all {p : PrD} (h : namesP p = 0) {f : FlD} (hf : f ∈ p.flows) {r : Rf} (hr : r ∈ gthE [] 0 f.body) : r.1 ∈ allN p f.st := by
  have hm : r.1 ∈ namesE f.body := List.mem_map.2 ⟨r, hr, rfl⟩
  have ht := asked_names (names_okN h) hf hm
  rw [← sites_names, List.mem_map] at ht
  obtain ⟨⟨a, b⟩, hab, e⟩ := ht
  simp only at e
  subst e
  unfold allN
  by_cases hb : b = f.st
  · subst hb
    exact List.mem_append.2 (.inl (own_mem.2 hab))
  · refine List.mem_append.2 (.inr ((needs_mem h).2 ⟨b, (site_station (names_prog h) hab).1, (site_station (names_prog h) hab).2, hb, own_mem.2 hab, ?_⟩))
    unfold hereAsks
    rw [List.any_eq_true]
    exact ⟨f, hf, by rw [Bool.and_eq_true]; exact ⟨by simp, asks_mem.2 hm⟩⟩
theorem findFl_ty {s : ByteArray} : ∀ {l : List FlD} {i : Nat}, (∀ x, x ∈ l → x.ty = 1 ∨ x.ty = 2) → (findFl s i l).2.2.2 = true → (findFl s i l).2.1 = 1 ∨ (findFl s i l).2.1 = 2
  | [], i, _, h => by simp [findFl] at h
  | y :: r, i, ha, h => by
    unfold findFl at h ⊢
    by_cases e : y.name = s
    · rw [if_pos e]; exact ha y (by simp)
    · rw [if_neg e] at h ⊢
      exact findFl_ty (fun x hx => ha x (by simp [hx])) h
theorem findP_ty {s : ByteArray} {fl : List FlD} (hf : ∀ x, x ∈ fl → x.ty = 1 ∨ x.ty = 2) : ∀ {l : List InD}, (∀ x, x ∈ l → x.ty = 1 ∨ x.ty = 2) → (findP s fl l).2.2.2 = true → (findP s fl l).2.1 = 1 ∨ (findP s fl l).2.1 = 2
  | [], _, h => by
    unfold findP at h ⊢
    exact findFl_ty hf h
  | y :: r, ha, h => by
    unfold findP at h ⊢
    by_cases e : y.name = s
    · rw [if_pos e]; exact ha y (by simp)
    · rw [if_neg e] at h ⊢
      exact findP_ty hf (fun x hx => ha x (by simp [hx])) h
theorem in_ty {p : PrD} (h : progP p = true) {x : InD} (hx : x ∈ p.ins) : x.ty = 1 ∨ x.ty = 2 := by
  have := (progP_parts.1 h).2.1 x hx
  simp only [inBad, mayP, Bool.not_eq_false', Bool.and_eq_true, Bool.or_eq_true, decide_eq_true_eq] at this
  exact this.1.1.2
theorem all_ty {p : PrD} (h : namesP p = 0) {st : Int} {s : ByteArray} (hs : s ∈ allN p st) : tyOf p s = 1 ∨ tyOf p s = 2 :=
  findP_ty (names0_ty h) (fun x hx => in_ty (names_prog h) hx) (all_there h hs)
theorem places_fine {p : PrD} {l : List Int} (h : lateChk p l = true) (st : Int) : placesOk ((allN p st).map (placeOf p l st)) = true := by
  have hn := (lateChk_iff.1 h).1
  unfold placesOk
  rw [Bool.not_eq_true', List.any_eq_false]
  intro x hx
  obtain ⟨s, hs, rfl⟩ := List.mem_map.1 hx
  obtain ⟨_, h2, h3⟩ := place_name (p := p) (l := l) (st := st) (s := s)
  have h4 := keepP_rng h st s
  have h5 := all_ty hn hs
  unfold placeOk
  rw [h2, h3]
  have e1 : (decide (tyOf p s = 1) || decide (tyOf p s = 2)) = true := by rcases h5 with h5 | h5 <;> rw [h5] <;> decide
  have e2 : decide (0 ≤ keepP p l st s) = true := by simp [h4.1]
  have e3 : decide (keepP p l st s ≤ 4000) = true := by simp; omega
  rw [e1, e2, e3]
  decide
theorem place_names {p : PrD} {l : List Int} {st : Int} : ((allN p st).map (placeOf p l st)).map (·.name) = allN p st := by
  rw [List.map_map]
  conv => rhs; rw [← List.map_id (allN p st)]
  exact List.map_congr_left (fun s _ => (place_name (p := p) (l := l) (st := st) (s := s)).1)
/-- The instructions of each flow of a program that is fine may be, and leave its type. -/
theorem fits_law {p : PrD} {l : List Int} (hc : lateChk p l = true) (ht : typesP p = 0) {i : Nat} {f : FlD} (hi : p.flows[i]? = some f) :
    placesE p l f.st = 0 ∧ codeErr p l i (placesP p l f.st) = 0 ∧ chkC (placesP p l f.st) (codeP p l i (placesP p l f.st)) = (f.ty, true) := by
  have hn := (lateChk_iff.1 hc).1
  have hp := names_prog hn
  have hf := List.mem_of_getElem? hi
  have hil := (List.getElem?_eq_some_iff.1 hi).1
  obtain ⟨s1, s2⟩ := fl_station hp hf
  obtain ⟨pe, pq⟩ := places_ok hc s1 s2
  have hi' : p.flows[((i : Nat) : Int).toNat]? = some f := by simpa using hi
  have he : codeErr p l i (placesP p l f.st) = 0 := by
    unfold codeErr
    rw [if_pos ⟨ht, hc, by omega, by omega, f, hi', rfl⟩]
  refine ⟨pe, he, ?_⟩
  obtain ⟨_, _, _, hok, _⟩ := prog_ok hp
  obtain ⟨hwf, hnd⟩ := ok_wf' (hok f hf)
  have hty : tyE p f.body = f.ty := by
    have h1 := names0_ty hn f hf
    have h2 : typedL p p.flows = true := by
      unfold typesP at ht
      rw [if_pos hn] at ht
      split at ht
      · assumption
      · cases ht
    have h3 := List.all_eq_true.1 h2 f hf
    unfold fineT at h3
    rw [Bool.and_eq_true, decide_eq_true_eq] at h3
    have h4 := h3.1
    unfold tyP at h4
    split at h4
    · simp only at h4; omega
    · split at h4
      · simp only at h4; omega
      · split at h4
        · simp only at h4; omega
        · exact h4
  have hne : tyE p f.body ≠ 0 := by
    rw [hty]
    rcases names0_ty hn f hf with h | h <;> rw [h] <;> decide
  have hcode : codeP p l i (placesP p l f.st) = codeE (atPl (placesP p l f.st)) (ageF p l i) 0 f.body := by
    unfold codeP
    rw [if_pos he, hi']
  rw [hcode, ← hty]
  refine chk_of (by rw [pq]; exact places_fine hc f.st) ?_ ?_
  · have := codeE_len (atPl (placesP p l f.st)) (ageF p l i) 0 f.body
    omega
  · refine code_run f.body 32 0 [] hwf (by omega) (by omega) (fun r hr => ?_) hne
    have hm := asked_all hn hf hr
    obtain ⟨k, hk, hks⟩ := List.getElem_of_mem hm
    have hk' : (allN p f.st)[k]? = some r.1 := by rw [List.getElem?_eq_getElem hk, hks]
    have hat : atPl (placesP p l f.st) r.1 = (k : Int) := by
      unfold atPl
      rw [pq, place_names, atG_at (all_nodup hn f.st) hk', Nat.zero_add]
    have har := age_rng hc hi hr
    have hge := keepP_ge (p := p) (l := l) hi hr
    obtain ⟨_, h2, h3⟩ := place_name (p := p) (l := l) (st := f.st) (s := r.1)
    refine ⟨by rw [hat]; omega, placeOf p l f.st r.1, ?_, h2, har.1, by rw [h3]; exact hge⟩
    rw [hat, pq, Int.toNat_natCast, List.getElem?_map, hk']
    rfl
end Go.Proofs.YtgkbhonjodcakaaGreat

namespace Go.Proofs.YtgkbhonjodcakaaGreat
open Go.RowKit Go.Shelf
attribute [local go_sem] Oper.semAt_some
set_option linter.unusedVariables false
set_option linter.unusedSimpArgs false

theorem infoAk : (Tryz.prog.info? 80).map (fun i => (i.zero, i.size, i.bytes)) = some (some (.agg #[.int .i64 0, .int .i64 0, .int .i64 0, .string ByteArray.empty, .int .i64 0]), 5, 48) := by kernel_rfl
def RetAks (l : List Ask) (w : World) (e : Ending) (w' : World) : Prop := ∃ v, e = .returned v ∧ AkV w' w.heap.size l v ∧ Ext w w'
theorem ak_map {p : PrD} {ys : List (AskS p)} {l : List Ask} (h : ys.map (·.1) = l) : ys.length = l.length ∧ (ys.flatMap fun x => ask5 x.1) = l.flatMap ask5 := by
  subst h
  simp [List.flatMap_map]
theorem kpT_appended {n0 base B k : Nat} {W w1 : World} {v v' : Value} {tmp : Obj} {xs : List Value} (hv : Boxed W B 75 v) (hrow : W.ownsRow base 80 5 v k xs) (hg : (W.alloc tmp).grownBy w1 v.ownBlock)
    (hb : Below n0 W (w1.setCell ⟨B, 0, none⟩ v')) : KpT n0 W (w1.setCell ⟨B, 0, none⟩ v') := by
  refine ⟨hb, fun j cs t f hj h1 h2 => ?_⟩
  have hjl : j < W.heap.size := (Array.getElem?_eq_some_iff.1 hj).1
  have hjB : j ≠ B := by
    rintro rfl
    rw [show W.heap[j]? = _ from hv] at hj
    cases hj
    exact h2 rfl
  rw [Below.heap_setCell _ _ _ _ hjB, hg.block j (by simp; omega) (fun e => ?_), Below.heap_alloc _ _ _ hjl]
  · exact hj
  · rcases hrow.2 with ⟨rfl, _⟩ | ⟨g, cap, cur, rfl, _, hgb, _⟩
    · cases e
    · simp only [Value.ownBlock, Option.some.injEq] at e
      subst e
      rw [hgb] at hj
      cases hj
      exact h1 rfl
set_option maxRecDepth 100000 in
set_option maxHeartbeats 4000000 in
theorem appendSeq_any (p : PrD) (cs : Array Value) (w : World) (Bs : Nat) (hP : RdPr w 0 false p cs) (hok : progP p = true) (hB : w.heap[Bs]? = some (.cells cs 26 (0, 0))) :
    Calls Tryz.prog 67 #[.slice none 0 0, .func (.func 68) #[] #[.pointer (some ⟨Bs, 0, none⟩)]] w (RetAks (asksP p) w) := by
  have HN := Lib.hid (asksP_len hok)
  have e0 : Ext w (w.alloc (.cells #[.slice none 0 0] 75)) := (Chg.refl _ _).alloc _
  have sb := Boxed.new w 75 (.slice none 0 0)
  have hs0 : (w.alloc (.cells #[.slice none 0 0] 75)).heap.size = w.heap.size + 1 := by simp
  obtain ⟨i0, hinf, hz0, hz1, hz2⟩ := info_parts infoAk
  refine (callsIn_wide (n := 8)).1 ?_
  refine callsIn_of_wp_marks Tryz.func67 rfl trivial ?_ rfl
  simp only [Tryz.ntmps67, List.size_toArray, List.length_cons, List.length_nil, Nat.reduceAdd, Nat.reduceSub, Array.replicate_succ, Array.replicate_zero, List.push_toArray, List.append_toArray, List.nil_append, List.cons_append]
  gi_wp2
  generalize (w.alloc (.cells #[.slice none 0 0] 75)) = W0 at *
  refine wpIn_rangeFunc_ownH rfl (by omega) (gf := 68) (lb := #[.pointer (some ⟨Bs, 0, none⟩)]) rfl trivial (enters_of Tryz.func68 (by kernel_rfl) rfl)
    (askings_iter 7 (by omega) Bs p w cs hP hok hB) kpT_t (fun W l o o' hl => kpT_b (m := W0.heap.size) (by omega) W l o o' hl) (Ext.below e0) (fun _ => rfl)
    (fun pre W => (∃ v, Boxed W w.heap.size 75 v ∧ W.ownsRow w.heap.size 80 5 v pre.length (pre.flatMap fun x => ask5 x.1) ∧ True) ∧ Below w.heap.size w W) (fun _ _ _ => False)
    (OwnFrom.and (Own.from (holdsRow_own (β := List (AskS p)) w.heap.size w.heap.size 75 80 5 (fun pre => pre.length) (fun pre => pre.flatMap fun x => ask5 x.1) (fun _ _ => True)) _) (ownFrom_below (Nat.le_refl _) (by omega)))
    (fun c s W W' row h _ _ => h.elim) ⟨⟨_, sb, World.ownsRow_nil _ _ _ _, trivial⟩, Ext.below e0⟩
    (fun x a' W => ∃ Bx, W0.heap.size ≤ Bx ∧ W.heap[Bx]? = some (.cells #[.int .i64 x.1.flow, .int .i64 x.1.src, .int .i64 x.1.more, .string x.1.ref.1, .int .i64 x.1.ref.2] 80 (0, 0)) ∧ W0.heap.size ≤ W.heap.size ∧ a' = { tmps := #[.slice none 0 0, .func (.func 68) #[] #[.pointer (some ⟨Bs, 0, none⟩)], .pointer (some ⟨w.heap.size, 0, none⟩), undef, .slice none 0 0, .pointer (some ⟨Bx, 0, none⟩), .func (.func 68) #[] #[.pointer (some ⟨Bs, 0, none⟩)], askV x.1, undef, undef, undef, undef, undef], defers := [] })
    (fun x a' _ X Y row hs hg hr => by obtain ⟨Bx, h1, h2, h3, h4⟩ := hs; exact ⟨Bx, h1, blkept h2 hg hr, by have := hg.size; omega, h4⟩)
    ?assign ?body ?done ?stop
  case assign =>
    rintro l pre x W K ⟨⟨v, hv, hrow, _⟩, hB⟩ hK
    simp only [askC, askV]
    gi_wp2
    have hvl := hv.lt
    have E : Ext W (W.alloc (.cells #[.int .i64 x.1.flow, .int .i64 x.1.src, .int .i64 x.1.more, .string x.1.ref.1, .int .i64 x.1.ref.2] 80)) := (Chg.refl _ _).alloc _
    exact hK _ _ ((KeepsOthers.alloc _ _).from _) (Ext.kpT E (by omega)) ⟨⟨v, hv.alloc _, hrow.alloc _, trivial⟩, hB.alloc hB.size _⟩ ⟨W.heap.size, by omega, World.alloc_heap_new W _, by simp; omega, rfl⟩
  case body =>
    rintro l pre x a' W hl ⟨r, hr⟩ ⟨⟨v, hv, hrow, _⟩, hB⟩ ⟨Bx, hBx, bX, hWs, rfl⟩ hlt
    have hvc := hv.cell
    have c0 := blk_cell bX 0
    have c1 := blk_cell bX 1
    have c2 := blk_cell bX 2
    have c3 := blk_cell bX 3
    have c4 := blk_cell bX 4
    simp only [List.getElem?_toArray, List.getElem?_cons_zero, List.getElem?_cons_succ] at c0 c1 c2 c3 c4
    have hn := HN.out
    have hnews := cell_many_new W (ask5 x.1) 80
    have hle : w.heap.size ≤ W.heap.size := hB.size
    have hone : ∀ u ∈ ask5 x.1, u.oneCell' = true := by simp [ask5, Value.oneCell']
    have HX := Lib.hid hrow
    gi_wp2_with (gi_at_builtin; refine wpListIn_append_own _ rfl _ _ 75 rfl w.heap.size 80 i0 _ 5 48 Tryz.underlying75 hinf hz0 hz1 hz2 rfl (by decide) _ _ _ rfl (hrow.alloc _) ⟨W.heap.size, 0, none⟩ 1 1 (ask5 x.1) rfl rfl hnews hone (by unfold maxLen; omega) (by omega) (by simp; omega) ?_; intro v' w1 hown' hgrow _; obtain ⟨g', cap', rfl⟩ := ownsRow_succ hown'; obtain ⟨hv1, hv2, hr2, hk2, hb2⟩ := hv.appended (by decide) hrow hle (Nat.le_refl _) hown' hgrow; have hkp := Lib.hid (kpT_appended hv hrow hgrow hb2); have hc1 := hv1.cell; have hf1 := hv1.frozen)
    exact ⟨hk2.from _, hkp.out, ⟨⟨_, hv2, by rw [List.length_append, List.flatMap_append]; simpa using hr2, trivial⟩, hB.trans hb2⟩⟩
  case done =>
    rintro D ys W hD hys ⟨⟨v, hv, hrow, _⟩, hB⟩ hK
    have hvc := hv.cell
    have hfin : Ext w (W.putObj D (.deferred none)) := Ext.of_below (hB.trans (belowK_b (w := w) (Nat.le_refl _) W D _ _ (by omega) hK rfl rfl))
    have hrow2 := ownsRow_putObj hrow (.deferred none) hK rfl
    obtain ⟨h1, h2⟩ := ak_map hys
    rw [h1, h2] at hrow2
    gi_wp2
    refine ⟨by simp, .inl ⟨_, _, rfl, run_takeDeferred hK, ?_⟩⟩
    refine ⟨v, ?_, v, rfl, hrow2, hfin⟩
    simp [results, Tryz.results67, go_sem]
  case stop =>
    rintro D c pre W hD _ h hK
    exact h.elim
theorem collect_any (p : PrD) (cs : Array Value) (w : World) (Bs : Nat) (hP : RdPr w 0 false p cs) (hok : progP p = true) (hB : w.heap[Bs]? = some (.cells cs 26 (0, 0))) :
    Calls Tryz.prog 22 #[.func (.func 68) #[] #[.pointer (some ⟨Bs, 0, none⟩)]] w (RetAks (asksP p) w) := by
  have H := Lib.hid (appendSeq_any p cs w Bs hP hok hB)
  generalize asksP p = l at *
  go_enter Tryz.func22, Tryz.ntmps22
  go_wp2_with fail
  refine H.out.mono ?_
  rintro e w1 ⟨v, rfl, h1, h2⟩
  go_wp2_with fail
  go_ret
  exact ⟨v, rfl, h1, h2⟩
end Go.Proofs.YtgkbhonjodcakaaGreat

namespace Go.Proofs.YtgkbhonjodcakaaGreat
open Go.RowKit
set_option linter.unusedVariables false
set_option linter.unusedSimpArgs false

/-- A slice of numbers in a block of one's own. -/
def LsV (w : World) (base : Nat) (l : List Int) (v : Value) : Prop := ∃ g, v = .slice (some ⟨g, 0, none⟩) l.length l.length ∧ base ≤ g ∧ w.heap[g]? = some (.cells (l.map (Value.int .i64)).toArray 3 (0, 0))
/-- What Of answers. -/
def RetOf (p : PrD) (w : World) (e : Ending) (w' : World) : Prop := ∃ l v n, LateA p l n ∧ e = .returned (.tuple #[v, .int .i64 n]) ∧ ((n = 0 ∧ LsV w' w.heap.size l v) ∨ (n ≠ 0 ∧ v = .slice none 0 0)) ∧ Ext w w'
theorem made_ints (n : Nat) : madeCells (Value.int .i64 0).cells (n * 1) = Array.replicate n (.int .i64 0) := by
  apply Array.ext
  · simp [madeCells]
  · intro i h1 h2
    have h0 : i % 1 = 0 := Nat.mod_one i
    simp [madeCells, Value.cells, h0]
theorem zero_ints (n : Nat) : Array.replicate n (Value.int .i64 0) = ((List.replicate n (0 : Int)).map (Value.int .i64)).toArray := by simp
theorem ints_set (l : List Int) (k : Nat) (n : Int) : ((l.map (Value.int .i64)).toArray).setIfInBounds k (.int .i64 n) = ((l.set k n).map (Value.int .i64)).toArray := by
  simp [List.map_set]
set_option maxRecDepth 100000 in
set_option maxHeartbeats 4000000 in
theorem lateOf_any (p : PrD) (cs : Array Value) (w : World) (h : RdPr w 0 false p cs) : Calls Tryz.prog 9 #[.agg cs] w (RetOf p w) := by
  have HP := Lib.hid h
  obtain ⟨ai, ci, af, cf, ao, co, rfl⟩ := pr_form h
  clear h
  have e0 := (Chg.refl (fun _ => False) w).alloc (.cells #[.int .i64 p.st, .slice ai p.ins.length ci, .slice af p.flows.length cf, .slice ao p.outs.length co] 26)
  have bP := heap_alloc_new w (.cells #[.int .i64 p.st, .slice ai p.ins.length ci, .slice af p.flows.length cf, .slice ao p.outs.length co] 26)
  go_enter Tryz.func9, Tryz.ntmps9
  go_wp2_with fail
  go_step3
  go_wp2_with fail
  generalize (w.alloc (.cells #[.int .i64 p.st, .slice ai p.ins.length ci, .slice af p.flows.length cf, .slice ao p.outs.length co] 26)) = W0 at *
  refine (nCheck_any p _ _ (HP.out.ext e0)).mono ?_
  rintro e w1 ⟨rfl, E1⟩
  have F1 := e0.trans E1
  have b1 := Ext.heap E1 bP
  by_cases hn : namesP p = 0
  case neg =>
    have bn : (namesP p != 0) = true := by simp [hn]
    have HL : Hid (LateA p [] (namesP p)) := by show LateA _ _ _; unfold LateA; rw [if_neg hn]; exact ⟨rfl, rfl⟩
    have HN := Lib.hid hn
    clear hn
    go_wp2_with fail
    refine bodyPost_ret (v := .tuple #[.slice none 0 0, .int .i64 (namesP p)]) (by simp [results, Tryz.results9, go_sem]) rfl ⟨_, _, _, HL.out, rfl, .inr ⟨HN.out, rfl⟩, F1⟩
  have HN := Lib.hid hn
  have bn : (namesP p != 0) = false := by simp [hn]
  have HPR := Lib.hid (names_prog hn)
  have hfl := (prog_ok HPR.out).2.1
  have HAL := Lib.hid (asksP_len HPR.out)
  clear hn bP E1
  generalize namesP p = np at bn ⊢
  have y0 : ∀ X, Ext w1 X → X.cell? ⟨w.heap.size, 0, none⟩ = some (.int .i64 p.st) := fun X hX => (blk_cell (Ext.heap hX b1) 0).trans rfl
  have y1 : ∀ X, Ext w1 X → X.cell? ⟨w.heap.size, 1, none⟩ = some (.slice ai p.ins.length ci) := fun X hX => (blk_cell (Ext.heap hX b1) 1).trans rfl
  have y2 : ∀ X, Ext w1 X → X.cell? ⟨w.heap.size, 2, none⟩ = some (.slice af p.flows.length cf) := fun X hX => (blk_cell (Ext.heap hX b1) 2).trans rfl
  have y3 : ∀ X, Ext w1 X → X.cell? ⟨w.heap.size, 3, none⟩ = some (.slice ao p.outs.length co) := fun X hX => (blk_cell (Ext.heap hX b1) 3).trans rfl
  have ea : ∀ X o, Ext w1 X → Ext w1 (X.alloc o) := fun X o hX => hX.alloc o
  have ed : Ext w1 w1.drew := (Chg.refl _ _).drew
  have er : Ext w1 w1 := Chg.refl _ _
  obtain ⟨i0, hi, hz0, hz1, hz2⟩ := info_parts infoInt
  have hmk : ∀ X : World, (Instr.makeSlice 29 (.int .i64 p.flows.length) (.int .i64 p.flows.length)).run Tryz.prog X = .ok (.slice (some ⟨X.heap.size, 0, none⟩) p.flows.length p.flows.length) (X.alloc (.cells (Array.replicate p.flows.length (.int .i64 0)) 3)) := fun X => by
    have := run_makeSlice (P := Tryz.prog) X 29 3 i0 _ Tryz.underlying29 hi hz0 .i64 .i64 (p.flows.length : Int) (p.flows.length : Int) (by omega) (by omega) (by simp [hz1]; omega) (by rw [hz2]; omega) (by omega)
    rw [Int.toNat_natCast, hz1, made_ints] at this
    exact this
  have HCOL := Lib.hid (fun (X : World) (Bs : Nat) (hX : Ext w X) (hB : X.heap[Bs]? = some (.cells #[.int .i64 p.st, .slice ai p.ins.length ci, .slice af p.flows.length cf, .slice ao p.outs.length co] 26 (0, 0))) => collect_any p _ X Bs (HP.out.ext hX) HPR.out hB)
  have HSK := Lib.hid (fun (X : World) => askings_any #[.int .i64 p.st, .slice ai p.ins.length ci, .slice af p.flows.length cf, .slice ao p.outs.length co] _ _ _ _ X rfl)
  go_wp2_with fail
  have hb1 := heap_alloc_new w1 (.cells #[.int .i64 p.st, .slice ai p.ins.length ci, .slice af p.flows.length cf, .slice ao p.outs.length co] 26)
  have hb2 := heap_alloc_new (w1.alloc (.cells (Array.replicate p.flows.length (.int .i64 0)) 3)) (.cells #[.int .i64 p.st, .slice ai p.ins.length ci, .slice af p.flows.length cf, .slice ao p.outs.length co] 26)
  rw [World.size_alloc] at hb2
  have hb3 := Ext.heap ((Chg.refl (fun _ => False) (w1.alloc (.cells #[.int .i64 p.st, .slice ai p.ins.length ci, .slice af p.flows.length cf, .slice ao p.outs.length co] 26))).alloc (.cells (Array.replicate p.flows.length (.int .i64 0)) 3)) hb1
  have hb4 := heap_alloc_new (w1.alloc (.cells #[.int .i64 p.st, .slice ai p.ins.length ci, .slice af p.flows.length cf, .slice ao p.outs.length co] 26)) (.cells (Array.replicate p.flows.length (.int .i64 0)) 3)
  rw [World.size_alloc] at hb4
  go_cut [5, 6] from 15 to 21 (fun s5 s6 wc => ∃ g : Nat, s6 = .slice (some ⟨g, 0, none⟩) p.flows.length p.flows.length ∧ w1.heap.size ≤ g ∧ wc.heap[g]? = some (.cells (Array.replicate p.flows.length (.int .i64 0)) 3 (0, 0)) ∧ AkV wc w.heap.size (asksP p) s5 ∧ Ext w1 wc)
  case first =>
    go_region_held3 (fun X => Ext w1 X) (repeat first | assumption | (refine Chg.drew ?_) | (refine Chg.alloc ?_ _))
      (first
        | (go_at_call 23; refine (HSK.out _).mono ?_; rintro e w2 ⟨rfl, rfl⟩)
        | (go_at_call 22; refine (HCOL.out _ _ (F1.trans (by repeat first | assumption | (refine Chg.drew ?_) | (refine Chg.alloc ?_ _))) (by first | exact hb1 | exact hb2 | exact hb3)).mono ?_; rintro e w5 ⟨v5, rfl, A5, E5⟩; have E5' := Ext.then (w := w1) (by repeat first | assumption | (refine Chg.drew ?_) | (refine Chg.alloc ?_ _)) E5 (fun _ h => h.elim)))
    all_goals go_wp2_with fail
    · go_meet
      case rel => exact ⟨_, rfl, by have := E5'.size; omega, heap_alloc_new w5 (.cells (Array.replicate p.flows.length (.int .i64 0)) 3), (AkV.base A5 (by have := F1.size; simp; omega)).chg ((Chg.refl (fun _ => False) w5).alloc _) (fun _ _ _ h => h), E5'.alloc _⟩
    · go_meet
      case rel => exact ⟨_, rfl, by omega, Ext.heap E5 hb4, AkV.base A5 (by have := F1.size; simp; omega), E5'⟩
    · go_meet
      case rel => exact ⟨_, rfl, by omega, Ext.heap E5 (Ext.heap ((Chg.refl _ _).alloc _) (heap_alloc_new w1 (.cells (Array.replicate p.flows.length (.int .i64 0)) 3))), AkV.base A5 (by have := F1.size; simp; omega), E5'⟩
  case rest =>
    obtain ⟨g, rfl, hg0, hz, A6, E6⟩ := hcut
    obtain ⟨aa, ca, rfl⟩ := A6.form
    clear hb1 hb2 hb3 hb4 hmk HCOL HSK y0 y1 y2 y3 ea ed er b1
    have HZ := Lib.hid hz
    have HA6 := Lib.hid A6
    have F6 := F1.trans E6
    have hgw : w.heap.size ≤ g := by have := F1.size; omega
    have hnl : (asksP p).length ≤ 25600 := HAL.out
    generalize hAk : asksP p = ak at *
    have HAK := Lib.hid hAk
    clear hz A6 hAk
    go_wp2_with fail
    go_step3
    go_wp2_with fail
    go_loopg [24] (leftS (List.replicate p.flows.length 0)) (fun gk s24 wr => ∃ l : List Int, gk = leftS l ∧ Way p l ∧ wr.heap[g]? = some (.cells (l.map (Value.int .i64)).toArray 3 (0, 0)) ∧ AkV wr w.heap.size ak (.slice aa ak.length ca) ∧ Ext w wr)
    case atStart => exact ⟨_, rfl, Way.start p, by rw [← zero_ints]; exact HZ.out, HA6.out, F6⟩
    case round =>
      clear F6 E6 F1
      obtain ⟨l, hgk, hW, hb, hA, hE⟩ := hrel
      have hll := hW.len
      have HW := Lib.hid hW
      have HGK := Lib.hid hgk
      have HLL := Lib.hid hll
      have HB := Lib.hid hb
      have HA := Lib.hid hA
      have hl128 : l.length ≤ 128 := by omega
      clear hW hgk hb hA
      obtain ⟨wo, rfl⟩ : ∃ wo : World, wo = wr := ⟨_, rfl⟩
      obtain ⟨ko, rfl⟩ : ∃ ko : Nat, ko = gk := ⟨_, rfl⟩
      go_wp2_with fail
      go_loopg [24] ak.length (fun g2 s24 wr => ∃ j : Nat, j + g2 = ak.length ∧ s24 = .int .i64 j ∧ (∀ x, x ∈ ak.take j → leastA l x ≤ l.getD x.flow 0) ∧ Ext wo wr)
      case atStart => exact ⟨0, by omega, rfl, fun x hx => by simp at hx, Chg.refl _ _⟩
      case round =>
        obtain ⟨j, hjg, rfl, hall, hE2⟩ := hrel
        have HALL := Lib.hid hall
        clear hall
        have hb := Ext.heap hE2 HB.out
        have hEw := hE.trans hE2
        cases gk with
        | zero =>
          have hjz : ¬ ((j : Int) < (ak.length : Int)) := by omega
          obtain rfl : j = ak.length := by omega
          have HLST : Hid (LateA p l 0) := by
            show LateA p l 0
            unfold LateA
            rw [if_pos HN.out]
            refine .inl ⟨rfl, HW.out.done (fun x hx => HALL.out x ?_)⟩
            rw [List.take_length, ← HAK.out]; exact hx
          have HLV : Hid (LsV wr w.heap.size l (.slice (some ⟨g, 0, none⟩) p.flows.length p.flows.length)) := ⟨g, by rw [HLL.out], hgw, hb⟩
          clear hb hjz
          go_wp2_with fail
          try rw [Exit.noGoto_ret]
          exact bodyPost_ret (v := .tuple #[.slice (some ⟨g, 0, none⟩) p.flows.length p.flows.length, .int .i64 0]) (by simp [results, Tryz.results9, go_sem]) rfl ⟨l, _, 0, HLST.out, rfl, .inl ⟨rfl, HLV.out⟩, hEw⟩
        | succ g2 =>
          have hlt : j < ak.length := by omega
          have hjz : (j : Int) < (ak.length : Int) := by omega
          have hx := List.getElem?_eq_getElem hlt
          have hxm : ak[j] ∈ asksP p := by rw [HAK.out]; exact List.getElem_mem hlt
          obtain ⟨ga, rfl, hga, c0, c1, c2, c3, c4, cur, hcur⟩ := (HA.out.chg hE2 (fun _ _ _ h => h)).get hx
          have hao := ask_ok HPR.out hxm
          have htk := List.take_succ_eq_append_getElem hlt
          generalize ak[j] = x at *
          have HTK := Lib.hid htk
          have hfl : x.flow < l.length := by have := hao.flow; omega
          have hfi : (x.flow : Int) < (p.flows.length : Int) := by omega
          have hlx := List.getElem?_eq_getElem hfl
          have hgd : l.getD x.flow 0 = l[x.flow] := by rw [List.getD_eq_getElem?_getD, hlx]; rfl
          have HGD := Lib.hid hgd
          have hbx : Ext wr (wr.alloc (.cells #[.int .i64 x.flow, .int .i64 x.src, .int .i64 x.more, .string x.ref.1, .int .i64 x.ref.2] 80)) := (Chg.refl _ _).alloc _
          have bx := heap_alloc_new wr (.cells #[.int .i64 x.flow, .int .i64 x.src, .int .i64 x.more, .string x.ref.1, .int .i64 x.ref.2] 80)
          have hrd := ints_rd (Ext.heap hbx hb) HW.out.rng (by omega)
          rw [HLL.out] at hrd
          have HLS := Lib.hid (askLeast_any p x l _ _ hao hrd ⟨HLL.out, HW.out.rng⟩)
          unfold askV RetE at HLS
          have HMEM := Lib.hid hxm
          have hmr := leastA_rng (p := p) ⟨HLL.out, HW.out.rng⟩ hao
          generalize hm : leastA l x = m at HLS hmr
          have HM := Lib.hid hm
          clear hx hao htk hgd hxm hm hrd
          go_wp2_with fail
          refine HLS.out.mono ?_
          rintro e w7 ⟨rfl, E7⟩
          have bx7 := Ext.heap E7 bx
          have hb7 := Ext.heap E7 (Ext.heap hbx hb)
          have hE7 := hE2.trans (hbx.trans E7)
          have k0 := (blk_cell bx7 0).trans rfl
          have kl := (blk_cell hb7 x.flow).trans (show _ = some (Value.int .i64 l[x.flow]) by simp [hlx])
          have kf := blk_free hb7 x.flow
          simp only [List.getElem?_toArray, List.getElem?_cons_zero, List.getElem?_cons_succ] at k0
          clear c0 c1 c2 c3 c4 hb bx hbx HLS bx7 E7 hlx
          generalize hu : l[x.flow] = u at *
          have HU := Lib.hid hu
          clear hu
          by_cases hbig : 1000 < m
          · have HST : Hid (LateA p [] 10) := by
              show LateA p [] 10
              unfold LateA
              rw [if_pos HN.out]
              exact .inr ⟨rfl, rfl, HW.out.stop HMEM.out (by rw [HM.out]; exact hbig)⟩
            go_wp2_with fail
            try rw [Exit.noGoto_ret]
            exact bodyPost_ret (v := .tuple #[.slice none 0 0, .int .i64 10]) (by simp [results, Tryz.results9, go_sem]) rfl ⟨[], _, 10, HST.out, rfl, .inr ⟨by decide, rfl⟩, hE.trans hE7⟩
          · by_cases hup : u < m
            · have HWN := Lib.hid (HW.out.step HMEM.out (by rw [HM.out]; omega) (by rw [HGD.out, HM.out]; exact hup))
              have HMS := Lib.hid (leftS_set (l := l) (k := x.flow) (n := m) hfl (by rw [HGD.out]; exact hup) (by omega))
              rw [HM.out] at HWN
              have C8 : Chg (fun q => q = g) w7 (w7.setCell ⟨g, x.flow, none⟩ (.int .i64 m)) := (Chg.refl _ _).setCell _ _ (.inl (Eq.refl _))
              have hb8 := blk_set hb7 x.flow (.int .i64 m)
              rw [ints_set] at hb8
              have HB8 := Lib.hid hb8
              have HA8 := Lib.hid ((HA.out.chg hE7 (fun _ _ _ h => h)).chg C8 (fun q cur hq e => by rw [e, hb7] at hq; simp at hq))
              have HE8 := Lib.hid (Ext.then (hE.trans hE7) C8 (fun b hb => by omega))
              clear hb8 C8 hb7
              go_wp2_with fail
              go_roundg (leftS (l.set x.flow m))
              case measure => rw [HGK.out]; exact HMS.out
              case rel => exact ⟨_, rfl, HWN.out, HB8.out, HA8.out, HE8.out⟩
            · have HALL2 : Hid (∀ y, y ∈ ak.take (j + 1) → leastA l y ≤ l.getD y.flow 0) := fun y hy => by
                rw [HTK.out] at hy
                rcases List.mem_append.1 hy with hy | hy
                · exact HALL.out y hy
                · rw [List.mem_singleton.1 hy, HM.out, HGD.out]; omega
              go_wp2_with fail
              go_roundg g2
              case measure => omega
              case rel => exact ⟨j + 1, by omega, by go_num, HALL2.out, hE7⟩
end Go.Proofs.YtgkbhonjodcakaaGreat

namespace Go.Proofs.YtgkbhonjodcakaaGreat
open Go.RowKit Go.ChangeShapes Go.WideShapes Go.Deep
set_option linter.unusedVariables false
set_option maxRecDepth 100000
theorem wf_i64 {n : Int} (h : (Lit.int .i64 n).wf = true) : isI64 n := by simpa [isI64, Lit.wf, IntKind.min, IntKind.max, IntKind.signed, IntKind.bits] using h
section
variable {H : Type} {enc : TypeId × Value → H} {w : World}
/-- A struct's value is one of cells. -/
theorem agg_of {W : World} {r : Reach} {base : Nat} {t : TypeId} {v : Value} {fs : Array Field} (ht : Tryz.prog.underlying t = some (.struct fs)) (h : Value.okWide Tryz.prog W r base t v) : ∃ cs, v = .agg cs ∧ v.cells = cs := by
  simp only [Value.okWide, ht] at h
  obtain ⟨cs, rfl, _⟩ := h
  exact ⟨cs, rfl, rfl⟩
/-- A list of texts. -/
theorem strs_open {fuel : Nat} {cs : List Value} {x : DataW H × List MemPlace} (h : TR enc w fuel 24 cs x) (hl : Lite Tryz.prog 24 x.1) : ∃ v, cs = [v] ∧ ∃ l : List ByteArray, RdStrV w 0 false l v := by
  obtain ⟨a, len, cap, rfl, hw, hlen, hcap, n, _, hi⟩ := slice_open Tryz.underlying24 (by decide +kernel) h hl
  rw [show Tryz.prog.bytesOf 9 = 16 from by kernel_rfl] at hw
  rw [show Tryz.prog.cellsOf 9 = 1 from by kernel_rfl] at hi
  simp only [reachBytes] at hw
  have key : ∀ i, i < len → ∃ s : ByteArray, s.size ≤ maxLen ∧ ∃ b o, a = some ⟨b, o, none⟩ ∧ b < w.heap.size ∧ w.cell? ⟨b, o + i, none⟩ = some (.string s) := by
    intro i hil
    obtain ⟨b, o, cs', y, ha, hb, hcl, hc, ht, _⟩ := hi i hil
    obtain ⟨s, rfl, _, hs⟩ := DataW.trod_string Tryz.underlying9 ht
    exact ⟨s, hs, b, o, ha, hb, by simpa using hc 0 (by omega)⟩
  obtain ⟨S, hS⟩ := choose_lt (α := ByteArray) key
  refine ⟨_, rfl, (List.range len).map S, a, cap, by simp, by simp [fitsR]; omega, by simpa using hlen, hcap, fun i x hx => ?_, fun ht => by simp at ht⟩
  have hil : i < len := by have := (List.getElem?_eq_some_iff.1 hx).1; simpa using this
  obtain rfl : S i = x := by simpa [hil] using hx
  obtain ⟨hs, b, o, ha, hb, hc⟩ := hS i hil
  exact ⟨hs, b, o, ha, Nat.zero_le _, hb, hc⟩
theorem len4 {α : Type} {l : List α} (h : l.length = 4) : ∃ a b c d, l = [a, b, c, d] := by
  match l, h with
  | [a, b, c, d], _ => exact ⟨a, b, c, d, rfl⟩
theorem len8 {α : Type} {l : List α} (h : l.length = 8) : ∃ a b c d e f g i, l = [a, b, c, d, e, f, g, i] := by
  match l, h with
  | [a, b, c, d, e, f, g, i], _ => exact ⟨a, b, c, d, e, f, g, i, rfl⟩
/-- A list of what comes from without. -/
theorem ins_open {fuel : Nat} {cs : List Value} {x : DataW H × List MemPlace} (h : TR enc w fuel 22 cs x) (hl : Lite Tryz.prog 22 x.1) : ∃ v, cs = [v] ∧ ∃ l : List InD, RdInV w 0 false l v := by
  obtain ⟨a, len, cap, rfl, hw, hlen, hcap, n, _, hi⟩ := slice_open Tryz.underlying22 (by decide +kernel) h hl
  rw [show Tryz.prog.bytesOf 147 = 32 from by kernel_rfl] at hw
  rw [show Tryz.prog.cellsOf 147 = 3 from by kernel_rfl] at hi
  simp only [reachBytes] at hw
  have key : ∀ i, i < len → ∃ x : InD, x.name.size ≤ maxLen ∧ isU8 x.ty ∧ isI64 x.st ∧ ∃ b o, a = some ⟨b, o, none⟩ ∧ 0 ≤ b ∧ b < w.heap.size ∧ w.cell? ⟨b, o + i * 3, none⟩ = some (.string x.name) ∧
      w.cell? ⟨b, o + i * 3 + 1, none⟩ = some (.int .u8 x.ty) ∧ w.cell? ⟨b, o + i * 3 + 2, none⟩ = some (.int .i64 x.st) := by
    intro i hil
    obtain ⟨b, o, cs', y, ha, hb, hcl, hc, ht, hy⟩ := hi i hil
    obtain ⟨n', _, _, hf⟩ := struct_open Tryz.underlying147 ht hy
    obtain ⟨c0, c1, c2, rfl⟩ := len3 hcl
    obtain ⟨y0, t0, _⟩ := hf 0 _ 1 rfl (by kernel_rfl)
    obtain ⟨y1, t1, _⟩ := hf 1 _ 1 rfl (by kernel_rfl)
    obtain ⟨y2, t2, _⟩ := hf 2 _ 1 rfl (by kernel_rfl)
    obtain ⟨n0, e0, _, f0⟩ := DataW.trod_string Tryz.underlying9 t0
    obtain ⟨n1, e1, _, f1⟩ := DataW.trod_int Tryz.underlying37 t1
    obtain ⟨n2, e2, _, f2⟩ := DataW.trod_int Tryz.underlying3 t2
    obtain rfl := one_of e0
    obtain rfl := one_of e1
    obtain rfl := one_of e2
    exact ⟨⟨n0, n1, n2⟩, f0, wf_u8 f1, wf_i64 f2, b, o, ha, Nat.zero_le _, hb, by simpa using hc 0 (by omega), by simpa using hc 1 (by omega), by simpa using hc 2 (by omega)⟩
  haveI : Inhabited InD := ⟨⟨⟨#[]⟩, 0, 0⟩⟩
  obtain ⟨S, hS⟩ := choose_lt (α := InD) key
  refine ⟨_, rfl, (List.range len).map S, a, cap, by simp, by simp [fitsR]; omega, by simpa using hlen, hcap, fun i x hx => ?_, fun ht => by simp at ht⟩
  have hil : i < len := by have := (List.getElem?_eq_some_iff.1 hx).1; simpa using this
  obtain rfl : S i = x := by simpa [hil] using hx
  exact hS i hil
/-- What is worked out. -/
theorem ex_open : ∀ (fuel : Nat) {cs : List Value} {x : DataW H × List MemPlace}, TR enc w fuel 41 cs x → Lite Tryz.prog 41 x.1 → ∃ e : Ex, RdEx w 0 false e cs := by
  intro fuel
  induction fuel using Nat.strongRecOn with
  | ind fuel ih =>
    intro cs x h hl
    obtain ⟨n', hn', hcl, hf⟩ := struct_open Tryz.underlying41 h hl
    rw [show Tryz.prog.cellsOf 41 = 4 from by kernel_rfl] at hcl
    obtain ⟨c0, c1, c2, c3, rfl⟩ := len4 hcl
    obtain ⟨y0, t0, _⟩ := hf 0 _ 1 rfl (by kernel_rfl)
    obtain ⟨y1, t1, _⟩ := hf 1 _ 1 rfl (by kernel_rfl)
    obtain ⟨y2, t2, _⟩ := hf 2 _ 1 rfl (by kernel_rfl)
    obtain ⟨y3, t3, l3⟩ := hf 3 _ 1 rfl (by kernel_rfl)
    obtain ⟨n0, e0, _, f0⟩ := DataW.trod_int Tryz.underlying38 t0
    obtain ⟨n1, e1, _, f1⟩ := DataW.trod_int Tryz.underlying2 t1
    obtain ⟨n2, e2, _, f2⟩ := DataW.trod_string Tryz.underlying9 t2
    obtain rfl := one_of e0
    obtain rfl := one_of e1
    obtain rfl := one_of e2
    obtain ⟨a, len, cap, e3, hw, hlen, hcap, n, hn, hi⟩ := slice_open Tryz.underlying39 (by decide +kernel) t3 l3
    obtain rfl := one_of e3
    rw [show Tryz.prog.bytesOf 41 = 56 from by kernel_rfl] at hw
    rw [show Tryz.prog.cellsOf 41 = 4 from by kernel_rfl] at hi
    simp only [reachBytes] at hw
    have key : ∀ i, i < len → ∃ x : Ex, ∃ b o c0 c1 c2 c3, a = some ⟨b, o, none⟩ ∧ 0 ≤ b ∧ b < w.heap.size ∧ w.cell? ⟨b, o + (0 + i) * 4, none⟩ = some c0 ∧ w.cell? ⟨b, o + (0 + i) * 4 + 1, none⟩ = some c1 ∧
        w.cell? ⟨b, o + (0 + i) * 4 + 2, none⟩ = some c2 ∧ w.cell? ⟨b, o + (0 + i) * 4 + 3, none⟩ = some c3 ∧ RdEx w 0 false x [c0, c1, c2, c3] := by
      intro i hil
      obtain ⟨b, o, cs', y, ha, hb, hcl, hc, ht, hy⟩ := hi i hil
      obtain ⟨e, he⟩ := ih n (by omega) ht hy
      obtain ⟨c0, c1, c2, c3, rfl⟩ := len4 hcl
      simp only [Nat.zero_add]
      exact ⟨e, b, o, c0, c1, c2, c3, ha, Nat.zero_le _, hb, by simpa using hc 0 (by omega), by simpa using hc 1 (by omega), by simpa using hc 2 (by omega), by simpa using hc 3 (by omega), he⟩
    haveI : Inhabited Ex := ⟨.mk 0 0 ⟨#[]⟩ []⟩
    obtain ⟨S, hS⟩ := choose_lt (α := Ex) key
    refine ⟨.mk n0 n1 n2 ((List.range len).map S), RdEx.shut (wf_u8 f0) (wf_i64 f1) f2 ⟨a, cap, by simp, by simp [fitsR]; omega, by simpa using hlen, hcap, RdExs.mk fun {i x} hx => ?_, fun ht => by simp at ht⟩⟩
    have hil : i < len := by have := (List.getElem?_eq_some_iff.1 hx).1; simpa using this
    obtain rfl : S i = x := by simpa [hil] using hx
    exact hS i hil
/-- A list of flows. -/
theorem fls_open {fuel : Nat} {cs : List Value} {x : DataW H × List MemPlace} (h : TR enc w fuel 23 cs x) (hl : Lite Tryz.prog 23 x.1) : ∃ v, cs = [v] ∧ ∃ l : List FlD, RdFlV w 0 false l v := by
  obtain ⟨a, len, cap, rfl, hw, hlen, hcap, n, _, hi⟩ := slice_open Tryz.underlying23 (by decide +kernel) h hl
  rw [show Tryz.prog.bytesOf 43 = 96 from by kernel_rfl] at hw
  rw [show Tryz.prog.cellsOf 43 = 8 from by kernel_rfl] at hi
  simp only [reachBytes] at hw
  have key : ∀ i, i < len → ∃ x : FlD, x.name.size ≤ maxLen ∧ isU8 x.ty ∧ isI64 x.st ∧ isI64 x.df ∧ ∃ b o, a = some ⟨b, o, none⟩ ∧ 0 ≤ b ∧ b < w.heap.size ∧ w.cell? ⟨b, o + i * 8, none⟩ = some (.string x.name) ∧
    w.cell? ⟨b, o + i * 8 + 1, none⟩ = some (.int .u8 x.ty) ∧ w.cell? ⟨b, o + i * 8 + 2, none⟩ = some (.int .i64 x.st) ∧ w.cell? ⟨b, o + i * 8 + 3, none⟩ = some (.int .i64 x.df) ∧
    isU8 x.body.op ∧ isI64 x.body.n ∧ x.body.name.size ≤ maxLen ∧ ∃ v, RdExV w 0 false x.body.args v ∧ w.cell? ⟨b, o + i * 8 + 4, none⟩ = some (.int .u8 x.body.op) ∧ w.cell? ⟨b, o + i * 8 + 4 + 1, none⟩ = some (.int .i64 x.body.n) ∧
    w.cell? ⟨b, o + i * 8 + 4 + 2, none⟩ = some (.string x.body.name) ∧ w.cell? ⟨b, o + i * 8 + 4 + 3, none⟩ = some v := by
    intro i hil
    obtain ⟨b, o, cs', y, ha, hb, hcl, hc, ht, hy⟩ := hi i hil
    obtain ⟨n', _, _, hf⟩ := struct_open Tryz.underlying43 ht hy
    obtain ⟨c0, c1, c2, c3, c4, c5, c6, c7, rfl⟩ := len8 hcl
    obtain ⟨y0, t0, _⟩ := hf 0 _ 1 rfl (by kernel_rfl)
    obtain ⟨y1, t1, _⟩ := hf 1 _ 1 rfl (by kernel_rfl)
    obtain ⟨y2, t2, _⟩ := hf 2 _ 1 rfl (by kernel_rfl)
    obtain ⟨y3, t3, _⟩ := hf 3 _ 1 rfl (by kernel_rfl)
    obtain ⟨y4, t4, l4⟩ := hf 4 _ 4 rfl (by kernel_rfl)
    obtain ⟨n0, e0, _, f0⟩ := DataW.trod_string Tryz.underlying9 t0
    obtain ⟨n1, e1, _, f1⟩ := DataW.trod_int Tryz.underlying37 t1
    obtain ⟨n2, e2, _, f2⟩ := DataW.trod_int Tryz.underlying3 t2
    obtain ⟨n3, e3, _, f3⟩ := DataW.trod_int Tryz.underlying2 t3
    obtain rfl := one_of e0
    obtain rfl := one_of e1
    obtain rfl := one_of e2
    obtain rfl := one_of e3
    obtain ⟨e, he⟩ := ex_open n' t4 l4
    have he' : RdEx w 0 false e [c4, c5, c6, c7] := he
    obtain ⟨op, n, nm, args⟩ := e
    obtain ⟨v, e, g1, g2, g3, hv⟩ := he'.open
    simp only [List.cons.injEq, and_true] at e
    obtain ⟨rfl, rfl, rfl, rfl⟩ := e
    exact ⟨⟨n0, n1, n2, n3, .mk op n nm args⟩, f0, wf_u8 f1, wf_i64 f2, wf_i64 f3, b, o, ha, Nat.zero_le _, hb, by simpa using hc 0 (by omega), by simpa using hc 1 (by omega), by simpa using hc 2 (by omega), by simpa using hc 3 (by omega), g1, g2, g3, _, hv,
      hc 4 (by omega), hc 5 (by omega), hc 6 (by omega), hc 7 (by omega)⟩
  haveI : Inhabited FlD := ⟨⟨⟨#[]⟩, 0, 0, 0, .mk 0 0 ⟨#[]⟩ []⟩⟩
  obtain ⟨S, hS⟩ := choose_lt (α := FlD) key
  refine ⟨_, rfl, (List.range len).map S, a, cap, by simp, by simp [fitsR]; omega, by simpa using hlen, hcap, fun i x hx => ?_, fun ht => by simp at ht⟩
  have hil : i < len := by have := (List.getElem?_eq_some_iff.1 hx).1; simpa using this
  obtain rfl : S i = x := by simpa [hil] using hx
  exact hS i hil
/-- A program. -/
theorem pr_open {v : Value} {d : DataW H} {ps : List MemPlace} (hv : ∃ cs, v = .agg cs ∧ v.cells = cs) (h : DataW.Trod enc Tryz.prog w 0 (fun _ => true) true 26 v d ps) (hl : Lite Tryz.prog 26 d) : ∃ (p : PrD) (cs : Array Value), v = .agg cs ∧ RdPr w 0 false p cs := by
  obtain ⟨fuel, h⟩ := h
  obtain ⟨cs, rfl, hcs⟩ := hv
  rw [hcs] at h
  obtain ⟨n', _, hcl, hf⟩ := struct_open Tryz.underlying26 h hl
  rw [show Tryz.prog.cellsOf 26 = 4 from by kernel_rfl] at hcl
  obtain ⟨c0, c1, c2, c3, e⟩ := len4 hcl
  rw [e] at hf
  obtain rfl : cs = #[c0, c1, c2, c3] := by cases cs; simpa using e
  obtain ⟨y0, t0, _⟩ := hf 0 _ 1 rfl (by kernel_rfl)
  obtain ⟨y1, t1, l1⟩ := hf 1 _ 1 rfl (by kernel_rfl)
  obtain ⟨y2, t2, l2⟩ := hf 2 _ 1 rfl (by kernel_rfl)
  obtain ⟨y3, t3, l3⟩ := hf 3 _ 1 rfl (by kernel_rfl)
  obtain ⟨n0, e0, _, f0⟩ := DataW.trod_int Tryz.underlying3 t0
  obtain rfl := one_of e0
  obtain ⟨v1, e1, k1, r1⟩ := ins_open t1 l1
  obtain ⟨v2, e2, k2, r2⟩ := fls_open t2 l2
  obtain ⟨v3, e3, k3, r3⟩ := strs_open t3 l3
  obtain rfl := one_of e1
  obtain rfl := one_of e2
  obtain rfl := one_of e3
  exact ⟨⟨n0, k1, k2, k3⟩, _, rfl, _, _, _, rfl, wf_i64 f0, r1, r2, r3⟩
end
end Go.Proofs.YtgkbhonjodcakaaGreat

namespace Go.Proofs.YtgkbhonjodcakaaGreat
open Go.RowKit
set_option linter.unusedVariables false
set_option linter.unusedSimpArgs false

theorem RdPr.low {w : World} {lo lo' : Nat} {t : Bool} {p : PrD} {cs : Array Value} (h : RdPr w lo t p cs) (hl : lo' ≤ lo) : RdPr w lo' t p cs := by
  obtain ⟨vi, vf, vo, rfl, h1, h2, h3, h4⟩ := h
  exact ⟨vi, vf, vo, rfl, h1, h2.lower hl, h3.lower hl, h4.lower hl⟩
theorem great14_any (p : PrD) (cs : Array Value) (w : World) (h : RdPr w 0 false p cs) : Calls Tryz.prog 7 #[.agg cs] w (RetB w) := by
  have hp := fun w' (e : Ext w w') => progSize_any p cs w' (h.ext e)
  have HP := Lib.hid hp
  obtain ⟨ai, ci, af, cf, ao, co, rfl⟩ := pr_form h
  clear hp h
  have e0 := (Chg.refl (fun _ => False) w).alloc (.cells #[.int .i64 p.st, .slice ai p.ins.length ci, .slice af p.flows.length cf, .slice ao p.outs.length co] 26)
  have b0 := heap_alloc_new w (.cells #[.int .i64 p.st, .slice ai p.ins.length ci, .slice af p.flows.length cf, .slice ao p.outs.length co] 26)
  go_enter Tryz.func7, Tryz.ntmps7
  go_wp2_with fail
  generalize (w.alloc (.cells #[.int .i64 p.st, .slice ai p.ins.length ci, .slice af p.flows.length cf, .slice ao p.outs.length co] 26)) = W0 at *
  have y1 : ∀ X, Ext W0 X → X.cell? ⟨w.heap.size, 1, none⟩ = some (.slice ai p.ins.length ci) := fun X hX => (blk_cell (Ext.heap hX b0) 1).trans rfl
  have y2 : ∀ X, Ext W0 X → X.cell? ⟨w.heap.size, 2, none⟩ = some (.slice af p.flows.length cf) := fun X hX => (blk_cell (Ext.heap hX b0) 2).trans rfl
  have y3 : ∀ X, Ext W0 X → X.cell? ⟨w.heap.size, 3, none⟩ = some (.slice ao p.outs.length co) := fun X hX => (blk_cell (Ext.heap hX b0) 3).trans rfl
  refine (HP.out _ e0).mono ?_
  rintro e w1 ⟨m, rfl, E1⟩
  go_wp2_with fail
  all_goals (go_ret; exact ⟨_, rfl, e0.trans E1⟩)
end Go.Proofs.YtgkbhonjodcakaaGreat

namespace Go.Proofs.YtgkbhonjodcakaaGreat
open Go.RowKit
set_option linter.unusedVariables false
set_option linter.unusedSimpArgs false

/-- One element's cells may stand in memory. -/
def ExFine (x : Ex) : Prop := isU8 x.op ∧ isI64 x.n ∧ x.name.size ≤ maxLen
/-- A list, as pairs of what its elements are and their parts' slices, cell by cell. -/
theorem RdExV.pairs {w : World} {lo : Nat} {t : Bool} {l : List Ex} {a : Option Addr} {n cap : Nat} (h : RdExV w lo t l (.slice a n cap)) : ∃ ps : List (Ex × Value), ps.map (·.1) = l ∧ (∀ p, p ∈ ps → ExFine p.1 ∧ RdExV w lo t p.1.args p.2) ∧
    ∀ b o, a = some ⟨b, o, none⟩ → ∀ (i : Nat) (p : Ex × Value), ps[i]? = some p → ∀ c, c < 4 → w.cell? ⟨b, o + i * 4 + c, none⟩ = (exP p)[c]? := by
  have key : ∀ (m : List Ex) (k : Nat), (∀ i x, m[i]? = some x → l[k + i]? = some x) → ∃ ps : List (Ex × Value), ps.map (·.1) = m ∧ (∀ p, p ∈ ps → ExFine p.1 ∧ RdExV w lo t p.1.args p.2) ∧
      ∀ b o, a = some ⟨b, o, none⟩ → ∀ (i : Nat) (p : Ex × Value), ps[i]? = some p → ∀ c, c < 4 → w.cell? ⟨b, o + (k + i) * 4 + c, none⟩ = (exP p)[c]? := by
    intro m
    induction m with
    | nil => intro k _; exact ⟨[], rfl, fun p hp => by simp at hp, fun _ _ _ i p hp => by simp at hp⟩
    | cons y r ih =>
      intro k hm
      obtain ⟨ps, h1, h2, h3⟩ := ih (k + 1) (fun i x hx => by rw [show k + 1 + i = k + (i + 1) from by omega]; exact hm (i + 1) x (by simpa using hx))
      obtain ⟨b, o, v, hbo, _, _, c0, c1, c2, c3, f1, f2, f3, hv⟩ := h.get (hm 0 y rfl)
      refine ⟨(y, v) :: ps, by simp [h1], fun p hp => ?_, fun b' o' hb i p hp c hc => ?_⟩
      · rcases List.mem_cons.1 hp with rfl | hp
        · exact ⟨⟨f1, f2, f3⟩, hv⟩
        · exact h2 p hp
      · cases i with
        | zero =>
          simp only [List.getElem?_cons_zero, Option.some.injEq] at hp
          subst hp
          rw [hbo] at hb
          simp only [Option.some.injEq, Addr.mk.injEq, and_true] at hb
          obtain ⟨rfl, rfl⟩ := hb
          rw [Nat.add_zero] at c0 c1 c2 c3 ⊢
          match c, hc with
          | 0, _ => exact c0
          | 1, _ => exact c1
          | 2, _ => exact c2
          | 3, _ => exact c3
          | c + 4, hc => omega
        | succ i =>
          have := h3 b' o' hb i p (by simpa using hp) c hc
          rw [show k + 1 + i = k + (i + 1) from by omega] at this
          exact this
  obtain ⟨ps, h1, h2, h3⟩ := key l 0 (fun i x hx => by rw [Nat.zero_add]; exact hx)
  exact ⟨ps, h1, h2, fun b o hb i p hp c hc => by have := h3 b o hb i p hp c hc; rwa [Nat.zero_add] at this⟩
end Go.Proofs.YtgkbhonjodcakaaGreat

namespace Go.Proofs.YtgkbhonjodcakaaGreat
open Go.RowKit
set_option linter.unusedVariables false
set_option linter.unusedSimpArgs false

def RdU8V (w : World) (l : List Int) (v : Value) : Prop := ∃ a cap, v = .slice a l.length cap ∧ fitsR l.length 1 ∧ l.length ≤ cap ∧ cap ≤ maxLen ∧ ∀ i x, l[i]? = some x → isU8 x ∧ ∃ b o, a = some ⟨b, o, none⟩ ∧ b < w.heap.size ∧ w.cell? ⟨b, o + i, none⟩ = some (.int .u8 x)
theorem RdU8V.ext {w w1 : World} {l : List Int} {v : Value} (h : RdU8V w l v) (he : Ext w w1) : RdU8V w1 l v := by
  obtain ⟨a, cap, rfl, h4, h5, h6, h7⟩ := h
  refine ⟨a, cap, rfl, h4, h5, h6, fun i x hx => ?_⟩
  obtain ⟨h1, b, o, ha, hb, k0⟩ := h7 i x hx
  exact ⟨h1, b, o, ha, by have := he.size; omega, he.cell k0⟩
theorem RdU8V.form {w : World} {l : List Int} {v : Value} (h : RdU8V w l v) : ∃ a cap, v = .slice a l.length cap ∧ fitsR l.length 1 := by
  obtain ⟨a, cap, rfl, h1, _⟩ := h
  exact ⟨a, cap, rfl, h1⟩
theorem RdU8V.get {w : World} {l : List Int} {a : Option Addr} {n cap : Nat} (h : RdU8V w l (.slice a n cap)) {i : Nat} {x : Int} (hx : l[i]? = some x) : isU8 x ∧ ∃ b o, a = some ⟨b, o, none⟩ ∧ b < w.heap.size ∧ w.cell? ⟨b, o + i, none⟩ = some (.int .u8 x) := by
  obtain ⟨a', cap', e, _, _, _, h7⟩ := h
  simp only [Value.slice.injEq] at e
  obtain ⟨rfl, _, _⟩ := e
  exact h7 i x hx
def RdBoV (w : World) (l : List Bool) (v : Value) : Prop := ∃ a cap, v = .slice a l.length cap ∧ fitsR l.length 1 ∧ l.length ≤ cap ∧ cap ≤ maxLen ∧ ∀ i x, l[i]? = some x → ∃ b o, a = some ⟨b, o, none⟩ ∧ b < w.heap.size ∧ w.cell? ⟨b, o + i, none⟩ = some (.bool x)
theorem RdBoV.ext {w w1 : World} {l : List Bool} {v : Value} (h : RdBoV w l v) (he : Ext w w1) : RdBoV w1 l v := by
  obtain ⟨a, cap, rfl, h4, h5, h6, h7⟩ := h
  refine ⟨a, cap, rfl, h4, h5, h6, fun i x hx => ?_⟩
  obtain ⟨b, o, ha, hb, k0⟩ := h7 i x hx
  exact ⟨b, o, ha, by have := he.size; omega, he.cell k0⟩
theorem RdBoV.form {w : World} {l : List Bool} {v : Value} (h : RdBoV w l v) : ∃ a cap, v = .slice a l.length cap ∧ fitsR l.length 1 := by
  obtain ⟨a, cap, rfl, h1, _⟩ := h
  exact ⟨a, cap, rfl, h1⟩
theorem RdBoV.get {w : World} {l : List Bool} {a : Option Addr} {n cap : Nat} (h : RdBoV w l (.slice a n cap)) {i : Nat} {x : Bool} (hx : l[i]? = some x) : ∃ b o, a = some ⟨b, o, none⟩ ∧ b < w.heap.size ∧ w.cell? ⟨b, o + i, none⟩ = some (.bool x) := by
  obtain ⟨a', cap', e, _, _, _, h7⟩ := h
  simp only [Value.slice.injEq] at e
  obtain ⟨rfl, _, _⟩ := e
  exact h7 i x hx
/-- Numbers at the head of a block of one's own. -/
def OwnI (w : World) (g cap : Nat) (l : List Int) : Prop := ∃ cur, w.heap[g]? = some (.cells cur 3 (0, 0)) ∧ cur.size = cap ∧ l.length ≤ cap ∧ cap ≤ maxLen ∧ ∀ (i : Nat) (x : Int), l[i]? = some x → cur[i]? = some (Value.int .i64 x)
theorem OwnI.of {w : World} {base g n cap : Nat} {l : List Int} (h : w.ownsRow base 3 1 (.slice (some ⟨g, 0, none⟩) n cap) n (l.map (Value.int .i64))) (hn : n = l.length) : OwnI w g cap l := by
  rcases h.2 with ⟨e, _⟩ | ⟨g', cap', cur, e, hb, hg, h1, h2, h3, h4⟩
  · cases e
  · simp only [Value.slice.injEq, Option.some.injEq, Addr.mk.injEq, and_true, true_and] at e
    obtain ⟨rfl, rfl⟩ := e
    refine ⟨cur, hg, by rw [h3, Nat.mul_one], by omega, h2, fun i x hx => ?_⟩
    have hi := (List.getElem?_eq_some_iff.1 hx).1
    have := congrArg (fun q : List Value => q[i]?) h4
    simp only [List.getElem?_take, List.getElem?_map, hx, Option.map_some] at this
    simpa [show i < n by omega] using this
theorem OwnI.ext {w w1 : World} {g cap : Nat} {l : List Int} (h : OwnI w g cap l) (he : Ext w w1) : OwnI w1 g cap l := by
  obtain ⟨cur, h0, h1⟩ := h
  exact ⟨cur, Ext.heap he h0, h1⟩
theorem OwnI.set {w : World} {g cap : Nat} {l : List Int} (h : OwnI w g cap l) {k : Nat} (hk : k < l.length) (n : Int) : OwnI (w.setCell ⟨g, k, none⟩ (.int .i64 n)) g cap (l.set k n) := by
  obtain ⟨cur, h0, h1, h2, h3, h4⟩ := h
  refine ⟨_, blk_set h0 k (.int .i64 n), by simpa using h1, by simpa using h2, h3, fun i x hx => ?_⟩
  rw [Array.getElem?_setIfInBounds]
  rw [List.getElem?_set] at hx
  by_cases hki : k = i
  · rw [if_pos hki] at hx ⊢
    rw [if_pos (by omega)] at hx
    rw [if_pos (by omega)]
    simpa using hx
  · rw [if_neg hki] at hx ⊢
    exact h4 i x hx
theorem OwnI.rd {w : World} {g cap : Nat} {l : List Int} (h : OwnI w g cap l) (hr : ∀ n, n ∈ l → isI64 n) (hl : l.length ≤ 1000000) : RdIntV w 0 false l (.slice (some ⟨g, 0, none⟩) l.length cap) := by
  obtain ⟨cur, h0, h1, h2, h3, h4⟩ := h
  refine ⟨_, _, rfl, by unfold fitsR; omega, h2, h3, fun i x hx => ⟨hr x (List.mem_of_getElem? hx), g, 0, rfl, Nat.zero_le _, lt_of_block h0, ?_⟩, fun h => by cases h⟩
  rw [Nat.zero_add, blk_cell h0]
  exact h4 i x hx
theorem OwnI.cell {w : World} {g cap : Nat} {l : List Int} (h : OwnI w g cap l) {i : Nat} {x : Int} (hx : l[i]? = some x) : w.cell? ⟨g, i, none⟩ = some (.int .i64 x) ∧ w.frozen? ⟨g, i, none⟩ = false := by
  obtain ⟨cur, h0, h1, h2, h3, h4⟩ := h
  exact ⟨(blk_cell h0 i).trans (h4 i x hx), blk_free h0 i⟩
end Go.Proofs.YtgkbhonjodcakaaGreat

namespace Go.Proofs.YtgkbhonjodcakaaGreat
open Go.RowKit
set_option linter.unusedVariables false
set_option linter.unusedSimpArgs false

theorem lateA_yes {p : PrD} {l : List Int} (h : LateA p l 0) : namesP p = 0 ∧ Least p l := by
  unfold LateA at h
  split at h
  · rename_i h0
    rcases h with ⟨_, h⟩ | ⟨h1, _⟩
    · exact ⟨h0, h⟩
    · cases h1
  · rename_i h0
    exact absurd h.1.symm h0
/-- The numbers on the way: as they were, or up to two more. -/
def NearL (l o : List Int) (i : Nat) : Prop := o.length = l.length ∧ o.getD i 0 = l.getD i 0 ∧ ∀ j, l.getD j 0 ≤ o.getD j 0 ∧ o.getD j 0 ≤ l.getD j 0 + 2
theorem NearL.step {l o : List Int} {i k : Nat} (h : NearL l o i) (hk : k < l.length) (hki : k ≠ i) (hold : o.getD k 0 = l.getD k 0) {d : Int} (h0 : 0 ≤ d) (h2 : d ≤ 2) : NearL l (o.set k (o.getD k 0 + d)) i := by
  obtain ⟨h1, hi, hj⟩ := h
  refine ⟨by rw [List.length_set]; exact h1, by rw [getD_set, if_neg (fun h => hki h.1.symm)]; exact hi, fun j => ?_⟩
  rw [getD_set]
  split
  · rename_i h; obtain ⟨rfl, _⟩ := h; omega
  · exact hj j
/-- What lies ahead of k may have grown; from k on it is as it was. -/
def NearK (l o : List Int) (i k : Nat) : Prop := NearL l o i ∧ ∀ j, k ≤ j → o.getD j 0 = l.getD j 0
theorem NearK.start (l : List Int) (i : Nat) : NearK l l i 0 := ⟨⟨rfl, rfl, fun j => by omega⟩, fun _ _ => rfl⟩
theorem NearK.same {l o : List Int} {i k : Nat} (h : NearK l o i k) : NearK l o i (k + 1) := ⟨h.1, fun j hj => h.2 j (by omega)⟩
theorem NearK.more {l o : List Int} {i k : Nat} (h : NearK l o i k) (hk : k < l.length) (hki : k ≠ i) {d : Int} (h0 : 0 ≤ d) (h2 : d ≤ 2) : NearK l (o.set k (o.getD k 0 + d)) i (k + 1) :=
  ⟨h.1.step hk hki (h.2 k (Nat.le_refl _)) h0 h2, fun j hj => by rw [getD_set, if_neg (by omega)]; exact h.2 j (by omega)⟩
end Go.Proofs.YtgkbhonjodcakaaGreat

