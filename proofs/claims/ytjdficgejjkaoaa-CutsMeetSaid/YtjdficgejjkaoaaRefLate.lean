/- The document's answers on lateness. -/
import Derived.Test.YtjdficgejjkaoaaLateChk
import Derived.Test.YtjdficgejjkaoaaRefNChk
import Derived.Deep.RegionHeld3
namespace Go.Proofs.Ytjdficgejjkaoaa
open Go.RowKit
set_option linter.unusedVariables false
set_option linter.unusedSimpArgs false

theorem pr_fl {w : World} {lo : Nat} {t : Bool} {p : PrD} {a b c d : Value} (h : RdPr w lo t p #[a, b, c, d]) : RdFlV w lo t p.flows c := by
  obtain ⟨vi, vf, vo, e, _, hi, hf, ho⟩ := h
  simp only [Array.mk.injEq, List.cons.injEq, and_true] at e
  obtain ⟨rfl, rfl, rfl, rfl⟩ := e
  exact hf
theorem RdFlV.at {w : World} {lo : Nat} {t : Bool} {l : List FlD} {a : Option Addr} {n cap : Nat} (h : RdFlV w lo t l (.slice a n cap)) {i : Nat} {x : FlD} (hx : l[i]? = some x) : x.name.size ≤ maxLen ∧ isU8 x.ty ∧ isI64 x.st ∧ isI64 x.df ∧ ∃ b o, a = some ⟨b, o, none⟩ ∧ lo ≤ b ∧ b < w.heap.size ∧ w.cell? ⟨b, o + i * 8, none⟩ = some (.string x.name) ∧
    w.cell? ⟨b, o + i * 8 + 1, none⟩ = some (.int .u8 x.ty) ∧ w.cell? ⟨b, o + i * 8 + 2, none⟩ = some (.int .i64 x.st) ∧ w.cell? ⟨b, o + i * 8 + 3, none⟩ = some (.int .i64 x.df) ∧
    isU8 x.body.op ∧ isI64 x.body.n ∧ x.body.name.size ≤ maxLen ∧ ∃ v, RdExV w lo t x.body.args v ∧ w.cell? ⟨b, o + i * 8 + 4, none⟩ = some (.int .u8 x.body.op) ∧ w.cell? ⟨b, o + i * 8 + 4 + 1, none⟩ = some (.int .i64 x.body.n) ∧
    w.cell? ⟨b, o + i * 8 + 4 + 2, none⟩ = some (.string x.body.name) ∧ w.cell? ⟨b, o + i * 8 + 4 + 3, none⟩ = some v := by
  obtain ⟨_, _, e, _, _, _, hr, _⟩ := h
  simp only [Value.slice.injEq] at e
  obtain ⟨rfl, _, _⟩ := e
  exact hr i x hx
set_option maxRecDepth 100000 in
set_option maxHeartbeats 4000000 in
theorem refLeast_any (p : PrD) (cs : Array Value) (l : List Int) (v : Value) (w : World) (h : RdPr w 0 false p cs) (hl : RdIntV w 0 false l v) (hp : progP p = true) (hok : LsOk p l) {k : Nat} {f : FlD} {r : Rf}
    (hk : p.flows[k]? = some f) (hr : r ∈ gthE [] 0 f.body) : Calls Try.prog 42 #[.agg cs, v, .int .i64 k, .agg #[.string r.1, .int .i64 r.2]] w (RetE (leastA l (askOf p k f r)) w) := by
  have hao := ask_ok hp (asksP_mem.2 ⟨k, f, r, hk, hr, rfl⟩)
  have HP := Lib.hid h
  have HL := Lib.hid hl
  obtain ⟨ai, ci, af, cf, ao, co, rfl⟩ := pr_form h
  obtain ⟨la, lc, rfl, _⟩ := hl.form
  obtain ⟨_, _, hst, _, b, o, rfl, _, _, _, _, c2, _⟩ := (pr_fl h).at hk
  have hkl : (k : Int) < (p.flows.length : Int) := by have := hao.flow; simp only [askOf] at this; omega
  have hlen : l.length = p.flows.length := hok.1
  have hln := (hl.form).choose_spec.choose_spec.2.1
  unfold fitsR at hln
  have hage : 0 ≤ r.2 ∧ r.2 ≤ 32 := ⟨hao.ago0, hao.ago1⟩
  have hs0 : -1 ≤ (findP r.1 p.flows p.ins).2.2.1 := hao.src0
  have hs1 : (findP r.1 p.flows p.ins).2.2.1 < (p.flows.length : Int) := hao.src1
  have hfin : leastA l (askOf p k f r) = if (findP r.1 p.flows p.ins).2.2.1 < 0 then (if (findP r.1 p.flows p.ins).1 = f.st then -r.2 else -r.2 + 1) else l.getD (findP r.1 p.flows p.ins).2.2.1.toNat 0 + (if (findP r.1 p.flows p.ins).1 = f.st then -r.2 else -r.2 + 1) := rfl
  have HFIN := Lib.hid hfin
  have HFd := Lib.hid (fun (X : World) (hX : Ext w X) => refFind_any p r.1 _ X (HP.out.ext hX))
  have x0 := heap_alloc_new w (.cells #[.int .i64 p.st, .slice ai p.ins.length ci, .slice (some ⟨b, o, none⟩) p.flows.length cf, .slice ao p.outs.length co] 26)
  clear h hl hfin hao hk hr
  unfold RetFind fourV at HFd
  generalize findP r.1 p.flows p.ins = fq at *
  obtain ⟨fa, fb, fc, fd⟩ := fq
  simp only at HFd HFIN hs0 hs1
  have HK := Lib.hid hok
  have HLEN := Lib.hid hlen
  clear hok hlen
  obtain ⟨r1, r2⟩ := r
  simp only at *
  go_enter Try.func42, Try.ntmps42
  go_wp2_with fail
  refine (HFd.out _ (((Chg.refl _ _).alloc _).alloc _)).mono ?_
  rintro e w1 ⟨rfl, E1⟩
  have F1 : Ext w w1 := (((Chg.refl _ _).alloc _).alloc _).trans E1
  have x1 := Ext.heap (((Chg.refl (fun _ => False) _).alloc _).trans E1) x0
  have d2 := F1.cell c2
  have rb := Ext.heap E1 (heap_alloc_new (w.alloc (.cells #[.int .i64 p.st, .slice ai p.ins.length ci, .slice (some ⟨b, o, none⟩) p.flows.length cf, .slice ao p.outs.length co] 26)) (.cells #[.string r1, .int .i64 r2] 29))
  rw [World.size_alloc] at rb
  have y0 := (blk_cell x1 2).trans rfl
  have y1 := (blk_cell rb 1).trans rfl
  simp only [List.getElem?_toArray, List.getElem?_cons_zero, List.getElem?_cons_succ] at y0 y1
  clear E1 x0 HFd c2
  have key : ∀ n : Int, n = leastA l (askOf p k f (r1, r2)) → RetE (leastA l (askOf p k f (r1, r2))) w (.returned (.int .i64 n)) w1 := fun n hn => by rw [hn]; exact ⟨rfl, F1⟩
  have KEY := Lib.hid key
  clear key
  by_cases hc : fc < 0
  · have bc : ¬ (0 ≤ fc) := by omega
    by_cases hs : fa = f.st
    · have bs : (fa != f.st) = false := by simp [hs]
      have H := Lib.hid hs
      clear hs
      go_wp2_with fail
      go_ret
      exact KEY.out _ (by rw [HFIN.out, if_pos hc, if_pos H.out])
    · have bs : (fa != f.st) = true := by simp [hs]
      have H := Lib.hid hs
      clear hs
      go_wp2_with fail
      go_ret
      exact KEY.out _ (by rw [HFIN.out, if_pos hc, if_neg H.out])
  · obtain ⟨m, rfl⟩ := Int.eq_ofNat_of_zero_le (show 0 ≤ fc by omega)
    have hm : m < l.length := by have := HLEN.out; omega
    have hx := List.getElem?_eq_getElem hm
    obtain ⟨_, b2, o2, rfl, _, _, c2⟩ := HL.out.get hx
    have hrg := HK.out.2 _ (List.getElem_mem hm)
    have hgd : l.getD m 0 = l[m] := by rw [List.getD_eq_getElem?_getD, hx]; rfl
    have HGD := Lib.hid hgd
    have hml : (m : Int) < (l.length : Int) := by omega
    generalize l[m] = u at *
    have c2 := F1.cell c2
    clear hx hgd
    by_cases hs : fa = f.st
    · have bs : (fa != f.st) = false := by simp [hs]
      have H := Lib.hid hs
      clear hs
      go_wp2_with fail
      go_ret
      exact KEY.out _ (by rw [HFIN.out, if_neg (by omega), if_pos H.out, Int.toNat_natCast, HGD.out]; omega)
    · have bs : (fa != f.st) = true := by simp [hs]
      have H := Lib.hid hs
      clear hs
      go_wp2_with fail
      go_ret
      exact KEY.out _ (by rw [HFIN.out, if_neg (by omega), if_neg H.out, Int.toNat_natCast, HGD.out]; omega)
end Go.Proofs.Ytjdficgejjkaoaa
