/- What stands in this text: TyChk, CodeQ. -/
import Derived.Test.YtgkbhonjodcakaaGreatJ4
import Derived.Test.YtgkbhonjodcakaaGreatJ5
import Derived.Test.YtgkbhonjodcakaaGreatJ10
import Derived.Test.YtgkbhonjodcakaaGreatJ11
import Derived.Deep.AppendLies
namespace Go.Proofs.YtgkbhonjodcakaaGreat
open Go.RowKit
set_option linter.unusedVariables false
set_option linter.unusedSimpArgs false

/-- Is a flow of its type? -/
def fineT (p : PrD) (x : FlD) : Bool := decide ((tyP p x.body).1 = x.ty) && (decide (x.ty = 1) || decide (x.df = 0) || decide (x.df = 1))
def typedL (p : PrD) (l : List FlD) : Bool := l.all (fineT p)
open Classical in
/-- The plain answer. -/
noncomputable def typesP (p : PrD) : Int := if namesP p = 0 then (if typedL p p.flows = true then 0 else 7) else namesP p
theorem typed_at {p : PrD} {l : List FlD} {k : Nat} {x : FlD} (h : l[k]? = some x) : typedL p (l.drop k) = (fineT p x && typedL p (l.drop (k + 1))) := by
  obtain ⟨hk, rfl⟩ := List.getElem?_eq_some_iff.1 h
  rw [List.drop_eq_getElem_cons hk]
  rfl
theorem names0_ty {p : PrD} (h : namesP p = 0) : ∀ x, x ∈ p.flows → x.ty = 1 ∨ x.ty = 2 := by
  intro x hx
  have hp : progP p = true := by
    cases hp : progP p
    · rw [names_1 hp] at h; cases h
    · rfl
  simp only [progP, Bool.and_eq_true, decide_eq_true_eq, Bool.not_eq_true', List.any_eq_false] at hp
  have := hp.1.2 x hx
  simp only [flBad, Bool.or_eq_true, not_or, Bool.not_eq_true', Bool.not_eq_false, mayP, Bool.and_eq_true, decide_eq_true_eq] at this
  exact this.1.1.1.1.2
set_option maxRecDepth 100000 in
set_option maxHeartbeats 4000000 in
theorem tyCheck_any (p : PrD) (cs : Array Value) (w : World) (h : RdPr w 0 false p cs) : Calls Tryz.prog 10 #[.agg cs] w (RetE (typesP p) w) := by
  have H := Lib.hid h
  obtain ⟨vi, vf, vo, rfl, _, hi, hf, ho⟩ := h
  obtain ⟨ai, ci, rfl, ri⟩ := hi
  obtain ⟨af, cf, rfl, rf⟩ := hf
  obtain ⟨ao, co, rfl, ro⟩ := ho
  have HF := Lib.hid (show RdFlV w 0 false p.flows (.slice af p.flows.length cf) from ⟨_, _, rfl, rf⟩)
  have n2 : p.flows.length ≤ 9000000000000000000 := by have := rf.1; unfold fitsR at this; omega
  clear ri rf ro
  have e0 : Ext w (w.alloc (.cells #[.int .i64 p.st, .slice ai p.ins.length ci, .slice af p.flows.length cf, .slice ao p.outs.length co] 26)) := (Chg.refl _ _).alloc _
  have xb := heap_alloc_new w (.cells #[.int .i64 p.st, .slice ai p.ins.length ci, .slice af p.flows.length cf, .slice ao p.outs.length co] 26)
  have HC := Lib.hid (nCheck_any p _ _ (H.out.ext e0))
  have HP : Hid (typesP p = if namesP p = 0 then (if typedL p p.flows = true then 0 else 7) else namesP p) := by show _ = _; unfold typesP; congr
  go_enter Tryz.func10, Tryz.ntmps10
  go_wp2_with fail
  refine HC.out.mono ?_
  rintro e w1 ⟨rfl, E1⟩
  have F1 := e0.trans E1
  have xb1 := Ext.heap E1 xb
  clear HC xb e0 E1
  have HN1 : Hid (namesP p = 0 → ∀ x, x ∈ p.flows → x.ty = 1 ∨ x.ty = 2) := names0_ty
  generalize namesP p = n at *
  by_cases hn : n = 0
  case neg =>
    have b1 : (n != 0) = true := by simpa using hn
    have HQ := Lib.hid (HP.out.trans (if_neg hn))
    clear hn
    go_wp2_with fail
    go_ret
    exact ⟨by rw [HQ.out]; rfl, F1⟩
  have HTY := Lib.hid (HN1.out hn)
  subst hn
  have HQ := Lib.hid (HP.out.trans (if_pos rfl))
  clear HP
  have x2 := blk_cell xb1 2
  simp only [List.getElem?_toArray, List.getElem?_cons_zero, List.getElem?_cons_succ] at x2
  go_wp2_with fail
  clear x2
  go_loopw [16] (fun i wr => ∃ k : Nat, k ≤ p.flows.length ∧ i = .int .i64 k ∧ typedL p p.flows = typedL p (p.flows.drop k) ∧ wr.heap[w.heap.size]? = some (.cells #[.int .i64 p.st, .slice ai p.ins.length ci, .slice af p.flows.length cf, .slice ao p.outs.length co] 26 (0, 0)) ∧ Ext w wr) (fun i _ => p.flows.length - (intOf i).toNat)
  case atStart => exact ⟨0, Nat.zero_le _, rfl, rfl, xb1, F1⟩
  case round =>
    clear xb1 F1
    obtain ⟨k, hk, rfl, hbe, xb, rE⟩ := hrel
    have HB := Lib.hid hbe
    clear hbe
    by_cases hlt : k < p.flows.length
    · have hx : p.flows[k]? = some p.flows[k] := List.getElem?_eq_getElem hlt
      have q1 : (k : Int) < (p.flows.length : Int) := by omega
      have hxm : p.flows[k] ∈ p.flows := List.getElem_mem hlt
      have HS := Lib.hid (typed_at (p := p) hx)
      obtain ⟨_, _, e, _, _, _, hr, _⟩ := HF.out.ext rE
      simp only [Value.slice.injEq, true_and] at e
      obtain ⟨rfl, rfl⟩ := e
      obtain ⟨hnm, _, _, _, b, o, rfl, _, hlt2, c0, c1, c2, c3, _, _, hbn, v, hvx, c4, c5, c6, c7⟩ := hr k _ hx
      generalize p.flows[k] = x at *
      have hO := fun (W : World) (hE : Ext wr W) => tyOf_any p x.body _ v W (H.out.ext (rE.trans hE)) (hvx.ext hE) hbn
      obtain ⟨va, vc, rfl, _⟩ := hvx.form
      have hAl : Ext wr (wr.alloc (.cells #[.string x.name, .int .u8 x.ty, .int .i64 x.st, .int .i64 x.df, .int .u8 x.body.op, .int .i64 x.body.n, .string x.body.name, .slice va x.body.args.length vc] 43)) := (Chg.refl _ _).alloc _
      have fb1 := heap_alloc_new wr (.cells #[.string x.name, .int .u8 x.ty, .int .i64 x.st, .int .i64 x.df, .int .u8 x.body.op, .int .i64 x.body.n, .string x.body.name, .slice va x.body.args.length vc] 43)
      have hxt := HTY.out x hxm
      have hcall := hO _ hAl
      unfold RetTO at hcall
      have HO := Lib.hid hcall
      have xb1 := Ext.heap hAl xb
      have z0 := blk_cell xb1 0
      have z1 := blk_cell xb1 1
      have z2 := blk_cell xb1 2
      have z3 := blk_cell xb1 3
      simp only [List.getElem?_toArray, List.getElem?_cons_zero, List.getElem?_cons_succ] at z0 z1 z2 z3
      clear hr hx hvx hO hcall
      obtain ⟨qa, qb, hqp⟩ : ∃ qa qb, tyP p x.body = (qa, qb) := ⟨_, _, rfl⟩
      have hqe : (tyP p x.body).1 = qa := by rw [hqp]
      rw [hqp] at HO
      clear hqp
      go_wp2_with fail
      refine HO.out.mono ?_
      rintro e w4 ⟨rfl, E4⟩
      have xb4 := Ext.heap E4 xb1
      have F4 : Ext w w4 := (rE.trans hAl).trans E4
      have E4' := E4
      clear z0 z1 z2 z3 xb1 xb rE hAl E4 c0 c1 c2 c3 c4 c5 c6 c7
      have fb4 := Ext.heap E4' fb1
      have f1 := blk_cell fb4 1
      have f3 := blk_cell fb4 3
      simp only [List.getElem?_toArray, List.getElem?_cons_zero, List.getElem?_cons_succ] at f1 f3
      have HFT : Hid (fineT p x = (decide (qa = x.ty) && (decide (x.ty = 1) || decide (x.df = 0) || decide (x.df = 1)))) := by
        show _ = _
        unfold fineT
        rw [hqe]
      clear fb4 fb1 hqe
      by_cases hq : qa = x.ty
      case neg =>
        have b1 : (qa != x.ty) = true := by simpa using hq
        have H2 : Hid (typedL p p.flows = false) := by
          show _ = _
          rw [HB.out, HS.out, HFT.out]
          rw [decide_eq_false hq]; rfl
        clear hq
        go_wp2_with fail
        go_ret
        exact ⟨by rw [HQ.out, H2.out]; rfl, F4⟩
      have b1 : (qa != x.ty) = false := by simpa using hq
      by_cases h1 : x.ty = 1
      case pos =>
        have H2 : Hid (typedL p p.flows = typedL p (p.flows.drop (k + 1))) := by
          show _ = _
          rw [HB.out, HS.out, HFT.out]
          rw [decide_eq_true hq, decide_eq_true h1]; rfl
        have b2 : (qa == 1) = true := by rw [hq, h1]; rfl
        have b3 : (x.ty == 2) = false := by rw [h1]; rfl
        clear hq h1 hxt
        go_wp2_with fail
        go_roundw
        case rel => exact ⟨k + 1, by omega, by go_num, H2.out, xb4, F4⟩
        case measure => simp [intOf]; omega
      have h2 : x.ty = 2 := hxt.resolve_left h1
      have b2 : (qa == 1) = false := by rw [hq, h2]; rfl
      have b3 : (x.ty == 2) = true := by rw [h2]; rfl
      by_cases d0 : x.df = 0
      case pos =>
        have b4 : (x.df != 0) = false := by rw [d0]; rfl
        have H2 : Hid (typedL p p.flows = typedL p (p.flows.drop (k + 1))) := by
          show _ = _
          rw [HB.out, HS.out, HFT.out]
          rw [decide_eq_true hq, decide_eq_true d0, Bool.or_true]; rfl
        clear hq h1 h2 hxt d0
        go_wp2_with fail
        go_roundw
        case rel => exact ⟨k + 1, by omega, by go_num, H2.out, xb4, F4⟩
        case measure => simp [intOf]; omega
      have b4 : (x.df != 0) = true := by simpa using d0
      by_cases d1 : x.df = 1
      case pos =>
        have b5 : (x.df != 1) = false := by rw [d1]; rfl
        have H2 : Hid (typedL p p.flows = typedL p (p.flows.drop (k + 1))) := by
          show _ = _
          rw [HB.out, HS.out, HFT.out]
          rw [decide_eq_true hq, decide_eq_true d1, Bool.or_true]; rfl
        clear hq h1 h2 hxt d0 d1
        go_wp2_with fail
        go_roundw
        case rel => exact ⟨k + 1, by omega, by go_num, H2.out, xb4, F4⟩
        case measure => simp [intOf]; omega
      have b5 : (x.df != 1) = true := by simpa using d1
      have H2 : Hid (typedL p p.flows = false) := by
        show _ = _
        rw [HB.out, HS.out, HFT.out]
        rw [decide_eq_true hq, decide_eq_false h1, decide_eq_false d0, decide_eq_false d1]; rfl
      clear hq h1 h2 hxt d0 d1
      go_wp2_with fail
      go_ret
      exact ⟨by rw [HQ.out, H2.out]; rfl, F4⟩
    · obtain rfl : k = p.flows.length := by omega
      have H2 : Hid (typedL p p.flows = true) := HB.out.trans (by rw [List.drop_length]; rfl)
      go_wp2_with fail
      go_ret
      exact ⟨by rw [HQ.out, H2.out]; rfl, rE⟩
end Go.Proofs.YtgkbhonjodcakaaGreat
namespace Go.Proofs.YtgkbhonjodcakaaGreat
open Go.RowKit
set_option linter.unusedVariables false
set_option linter.unusedSimpArgs false

def lastI (at_ : ByteArray → Int) (age : ByteArray → Int → Int) (op n : Int) (nm : ByteArray) (ago : Int) : IsD := if op = 3 then ⟨op, at_ nm, age nm ago⟩ else if op = 18 then ⟨op, n, ago⟩ else ⟨op, n, 0⟩
mutual
/-- The instructions of what is worked out, so many instants ago. -/
def codeE (at_ : ByteArray → Int) (age : ByteArray → Int → Int) : Int → Ex → List IsD
  | ago, .mk op n nm args => codeL at_ age (agoP op ago) args ++ (if op = 19 then [] else [lastI at_ age op n nm ago])
def codeL (at_ : ByteArray → Int) (age : ByteArray → Int → Int) : Int → List Ex → List IsD
  | _, [] => []
  | ago, x :: r => codeE at_ age ago x ++ codeL at_ age ago r
end
mutual
theorem codeE_len (at_ : ByteArray → Int) (age : ByteArray → Int → Int) : ∀ (ago : Int) (x : Ex), (codeE at_ age ago x).length ≤ nodesE x
  | ago, .mk op n nm args => by
    have := codeL_len at_ age (agoP op ago) args
    simp only [codeE, nodesE, List.length_append]
    split <;> simp <;> omega
theorem codeL_len (at_ : ByteArray → Int) (age : ByteArray → Int → Int) : ∀ (ago : Int) (l : List Ex), (codeL at_ age ago l).length ≤ nodesL l
  | ago, [] => by simp [codeL, nodesL]
  | ago, x :: r => by
    have := codeE_len at_ age ago x
    have := codeL_len at_ age ago r
    simp only [codeL, nodesL, List.length_append]
    omega
end
theorem place_name {p : PrD} {l : List Int} {st : Int} {s : ByteArray} : (placeOf p l st s).name = s ∧ (placeOf p l st s).ty = tyOf p s ∧ (placeOf p l st s).keep = keepP p l st s := by
  unfold placeOf
  split <;> exact ⟨rfl, rfl, rfl⟩
def atPl (ps : List PlD) (s : ByteArray) : Int := atG s 0 (ps.map (·.name)) 0
noncomputable def ageF (p : PrD) (l : List Int) (flow : Int) (nm : ByteArray) (ago : Int) : Int := (ageP p l flow (nm, ago)).1
open Classical in
/-- The plain answer of Of: the error, and the instructions. -/
noncomputable def codeErr (p : PrD) (l : List Int) (flow : Int) (ps : List PlD) : Int :=
  if typesP p = 0 ∧ lateChk p l = true ∧ 0 ≤ flow ∧ flow < p.flows.length ∧ ∃ f, p.flows[flow.toNat]? = some f ∧ placesP p l f.st = ps then 0 else 1
noncomputable def codeP (p : PrD) (l : List Int) (flow : Int) (ps : List PlD) : List IsD :=
  if codeErr p l flow ps = 0 then (match p.flows[flow.toNat]? with | some f => codeE (atPl ps) (ageF p l flow) 0 f.body | none => []) else []
end Go.Proofs.YtgkbhonjodcakaaGreat
