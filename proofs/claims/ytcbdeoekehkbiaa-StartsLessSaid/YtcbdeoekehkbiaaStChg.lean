/- changed: with a number in the place of a part. -/
import Derived.Test.YtcbdeoekehkbiaaStLessP
import Derived.Test.YtcbdeoekehkbiaaExOwn
import Derived.Deep.Cut
namespace Go.Proofs.Ytcbdeoekehkbiaa
open Go.RowKit
set_option linter.unusedVariables false
set_option linter.unusedSimpArgs false

/-- What is answered lies in an elder world and in what is new: whatever is written between them, it reads the same. -/
def RetX (y : Ex) (w0 w : World) (e : Ending) (w' : World) : Prop := ∃ u, e = .returned u ∧ Ext w w' ∧ ∀ X, Chg (fun q => w0.heap.size ≤ q ∧ q < w.heap.size) w' X → ExA X y u
def EChg (f : Nat) : Prop := ∀ (x : Ex) (v : Value) (way : Nat) (w0 w : World), way < 2 ^ f → way ≤ 255 → Ext w0 w → ExA w0 x v → Calls Try.prog 22 #[v, .int .i64 way] w (RetX (chgE f x way) w0 w)
theorem chg_nought {f : Nat} {op n : Int} {nm : ByteArray} {args : List Ex} {way : Nat} (h : args.length = 0 ∨ way = 0) : chgE f (.mk op n nm args) way = noughtE := by
  cases f with
  | zero => rfl
  | succ f => unfold chgE; rw [if_pos h]
set_option maxRecDepth 100000 in
set_option maxHeartbeats 4000000 in
theorem changed_leaf (f : Nat) (x : Ex) (v : Value) (way : Nat) (w0 w : World) (hz : x.args.length = 0 ∨ way = 0) (h : ExA w0 x v) : Calls Try.prog 22 #[v, .int .i64 way] w (RetX (chgE f x way) w0 w) := by
  obtain ⟨op, n, nm, args⟩ := x
  obtain ⟨a, rfl, h1, h2, h3, h4⟩ := h
  simp only [Ex.op, Ex.n, Ex.name, Ex.args] at *
  obtain ⟨aa, cap, rfl, _⟩ := h4.form
  have HC := Lib.hid (chg_nought (f := f) (op := op) (n := n) (nm := nm) (args := args) hz)
  have key : ∀ (b : Bool), ((args.length : Int) == 0) = b → (b = false → ((way : Int) == 0) = true) → Calls Try.prog 22 #[.agg #[.int .u8 op, .int .i64 n, .string nm, .slice aa args.length cap], .int .i64 way] w (RetX (chgE f (.mk op n nm args) way) w0 w) := by
    intro b hb hw
    have e0 := ((Chg.refl (fun _ => False) w).alloc (.cells #[.int .u8 op, .int .i64 n, .string nm, .slice aa args.length cap] 25))
    have e1 := e0.alloc (.cells #[.int .u8 0, .int .i64 0, .string ⟨#[]⟩, .slice none 0 0] 25)
    have b1 := heap_alloc_new (w.alloc (.cells #[.int .u8 op, .int .i64 n, .string nm, .slice aa args.length cap] 25)) (.cells #[.int .u8 0, .int .i64 0, .string ⟨#[]⟩, .slice none 0 0] 25)
    rw [World.size_alloc] at b1
    have hfin : ∀ w2, Ext ((w.alloc (.cells #[.int .u8 op, .int .i64 n, .string nm, .slice aa args.length cap] 25)).alloc (.cells #[.int .u8 0, .int .i64 0, .string ⟨#[]⟩, .slice none 0 0] 25)) w2 →
        w2.heap[w.heap.size + 1]? = some (.cells #[.int .u8 0, .int .i64 0, .string ⟨#[]⟩, .slice none 0 0] 25 (0, 0)) ∧ Ext w w2 := fun w2 h => ⟨Ext.heap h b1, e1.trans h⟩
    have HF := Lib.hid hfin
    clear hfin e0 e1 b1
    cases b
    all_goals (
      have hw := hw
      simp only [forall_const, reduceCtorEq, false_implies] at hw
      go_enter Try.func22, Try.ntmps22
      go_wp2_with fail
      refine (stNought_any _).mono ?_
      rintro e w2 ⟨rfl, E2⟩
      obtain ⟨B2, F2⟩ := HF.out _ E2
      clear E2
      have c0 := blk_cell B2 0
      have c1 := blk_cell B2 1
      have c2 := blk_cell B2 2
      have c3 := blk_cell B2 3
      have g0 := blk_free B2 0
      have g1 := blk_free B2 1
      have g2 := blk_free B2 2
      have g3 := blk_free B2 3
      simp only [List.getElem?_toArray, List.getElem?_cons_zero, List.getElem?_cons_succ] at c0 c1 c2 c3
      go_wp2_with fail
      have C4 := chg_sets4 w2 (w.heap.size + 1) (.int .u8 1) (.int .i64 0) (.string ⟨#[]⟩) (.slice none 0 0)
      have B4 := blk_set (blk_set (blk_set (blk_set B2 0 (.int .u8 1)) 1 (.int .i64 0)) 2 (.string ⟨#[]⟩)) 3 (.slice none 0 0)
      have r0 := blk_cell B4 0
      have r1 := blk_cell B4 1
      have r2 := blk_cell B4 2
      have r3 := blk_cell B4 3
      simp at r0 r1 r2 r3
      refine bodyPost_ret (v := .agg #[.int .u8 1, .int .i64 0, .string ⟨#[]⟩, .slice none 0 0]) ?_ rfl ⟨_, rfl, Ext.then F2 C4 (fun b hb => by omega), fun X _ => ?_⟩
      · simp [results, Try.results22, go_sem, r0, r1, r2, r3]
      · rw [HC.out]
        exact exa_nought _)
  rcases hz with hz | hz
  · exact key true (by simp [hz]) (fun h => by cases h)
  · cases hb : ((args.length : Int) == 0)
    · exact key false hb (fun _ => by simp [hz])
    · exact key true hb (fun h => by cases h)
set_option maxRecDepth 100000 in
set_option maxHeartbeats 4000000 in
theorem changed_any : ∀ f, EChg f := by
  intro f
  induction f with
  | zero =>
    intro x v way w0 w hw h255 hE h
    exact changed_leaf 0 x v way w0 w (.inr (by simp at hw; omega)) h
  | succ f ih =>
    intro x v way w0 w hw h255 hE h
    by_cases hz : x.args.length = 0 ∨ way = 0
    · exact changed_leaf (f + 1) x v way w0 w hz h
    obtain ⟨op, n, nm, args⟩ := x
    obtain ⟨a, rfl, h1, h2, h3, h4⟩ := h
    simp only [Ex.op, Ex.n, Ex.name, Ex.args] at *
    have hce : chgE (f + 1) (.mk op n nm args) way = .mk op n nm (args.set (way % args.length) (chgE f (args.getD (way % args.length) noughtE) (way / 2))) := by
      rw [chgE, if_neg hz]
    obtain ⟨y, hy, hm, hg⟩ := part_of hz
    rw [hg] at hce
    have HI := Lib.hid (fun (v : Value) (w : World) (hE : Ext w0 w) (h : ExA w0 y v) => ih y v (way / 2) w0 w (Nat.div_lt_of_lt_mul (by rw [Nat.pow_succ, Nat.mul_comm] at hw; exact hw)) (by omega) hE h)
    have HCE := Lib.hid hce
    have hl0 : 0 < args.length ∧ 0 < way := by constructor <;> (apply Nat.pos_of_ne_zero; intro h; exact hz (by simp [h]))
    have b1 : ((args.length : Int) == 0) = false := by rw [beq_eq_false_iff_ne]; omega
    have b2 : ((way : Int) == 0) = false := by simp; omega
    have hkl : way % args.length < args.length := Nat.mod_lt _ hl0.1
    have hmod : (way : Int) % (args.length : Int) = ((way % args.length : Nat) : Int) := by simp
    have HW2 : Hid ((way : Int) / 2 = ((way / 2 : Nat) : Int)) := by show _ = _; simp
    generalize way % args.length = k at *
    have m1 : 0 ≤ (way : Int) % (args.length : Int) := by omega
    have m2 : (way : Int) % (args.length : Int) < (args.length : Int) := by omega
    have hkt : ((way : Int) % (args.length : Int)).toNat = k := by omega
    have HK := Lib.hid hmod
    obtain ⟨aa, cap, rfl, hfit, hcap, hcm⟩ := h4.form
    obtain ⟨ps, hps, hpf, hpc⟩ := h4.pairs
    have hlen : ps.length = args.length := by rw [← hps, List.length_map]
    obtain ⟨b, o, rfl⟩ : ∃ b o, aa = some ⟨b, o, none⟩ := by
      obtain ⟨b, o, _, hb, _⟩ := h4.get hy
      exact ⟨b, o, hb⟩
    have hnews := fun j u h => Ext.cell hE (flat_cells (hpc b o rfl) j u h)
    have hfit' : args.length * 56 ≤ 140737488351232 := hfit
    have hone := flat_one hpf
    have HPS := Lib.hid hps
    have HPF := Lib.hid hpf
    have hkp : ps[k]? = some (ps[k]'(by omega)) := List.getElem?_eq_getElem (by omega)
    have hpk : (ps[k]'(by omega)).1 = y := by
      have : (ps.map (·.1))[k]? = some y := by rw [hps]; exact hy
      rw [List.getElem?_map, hkp] at this
      simpa using this
    have HKP : Hid (∃ u, ps[k]? = some (y, u) ∧ ExFine y ∧ RdExV w0 0 false y.args u) := by
      refine ⟨(ps[k]'(by omega)).2, ?_, ?_⟩
      · rw [hkp]; exact congrArg some (Prod.ext hpk rfl)
      · have := hpf _ (List.getElem_mem (show k < ps.length by omega))
        rw [hpk] at this
        exact this
    obtain ⟨i0, hinf, hz0, hz1, hz2⟩ := info_parts infoEx
    have e0 := ((Chg.refl (fun _ => False) w).alloc (.cells #[.int .u8 op, .int .i64 n, .string nm, .slice (some ⟨b, o, none⟩) args.length cap] 25))
    have bx := heap_alloc_new w (.cells #[.int .u8 op, .int .i64 n, .string nm, .slice (some ⟨b, o, none⟩) args.length cap] 25)
    have e1 := e0.alloc (.cells #[.int .u8 0, .int .i64 0, .string ⟨#[]⟩, .slice none 0 0] 25)
    have br := heap_alloc_new (w.alloc (.cells #[.int .u8 op, .int .i64 n, .string nm, .slice (some ⟨b, o, none⟩) args.length cap] 25)) (.cells #[.int .u8 0, .int .i64 0, .string ⟨#[]⟩, .slice none 0 0] 25)
    rw [World.size_alloc] at br
    have bx := Ext.heap ((Chg.refl (fun _ => False) (w.alloc (.cells #[.int .u8 op, .int .i64 n, .string nm, .slice (some ⟨b, o, none⟩) args.length cap] 25))).alloc (.cells #[.int .u8 0, .int .i64 0, .string ⟨#[]⟩, .slice none 0 0] 25)) bx
    clear hz hce hps hpf hpc hkp hpk hmod hy hm hg ih hw e0 hfit
    go_enter Try.func22, Try.ntmps22
    go_upto_region 4 with (fail)
    generalize ((w.alloc (.cells #[.int .u8 op, .int .i64 n, .string nm, .slice (some ⟨b, o, none⟩) args.length cap] 25)).alloc (.cells #[.int .u8 0, .int .i64 0, .string ⟨#[]⟩, .slice none 0 0] 25)) = W0 at *
    have x3 := blk_cell bx 3
    simp only [List.getElem?_toArray, List.getElem?_cons_zero, List.getElem?_cons_succ] at x3
    have hnews := fun j u h => Ext.cell e1 (hnews j u h)
    go_wp2_with (at_builtin; refine wpList_append_own_at _ rfl _ _ 23 rfl W0.heap.size 25 i0 _ 4 56 Try.underlying23 hinf hz0 hz1 hz2 rfl (by decide) (.slice none 0 0) 0 [] rfl (World.ownsRow_nil _ _ _ _) ⟨b, o, none⟩ args.length cap (ps.flatMap exP) rfl (by rw [flat_len exP_len, hlen]) hnews hone (by unfold maxLen; omega) (by omega) (Nat.le_refl _) ?_; intro v6 w6 hown6 hgrow6 hnil6 hat6; obtain ⟨g, cap6, rfl, hown7, E6⟩ := own_copy hown6 hgrow6 hl0.1; clear hown6 hgrow6 hnil6 hat6; obtain ⟨cur, hcur, hsz, hrow, hc1, hc2, hgb⟩ := RowOf.own (r := []) exP_len (by simpa using hown7); obtain ⟨u, hku, hyf, hyr⟩ := HKP.out; have hkc := hrow k _ hku; have d0 := (blk_cell hcur (k * 4)).trans (hkc 0 (by omega)); have d1 := (blk_cell hcur (k * 4 + 1)).trans (hkc 1 (by omega)); have d2 := (blk_cell hcur (k * 4 + 2)).trans (hkc 2 (by omega)); have d3 := (blk_cell hcur (k * 4 + 3)).trans (hkc 3 (by omega)); simp only [exP, List.getElem?_cons_zero, List.getElem?_cons_succ] at d0 d1 d2 d3)
    have HU := Lib.hid (⟨_, rfl, hyf.1, hyf.2.1, hyf.2.2, hyr⟩ : ExA w0 y (.agg #[.int .u8 y.op, .int .i64 y.n, .string y.name, u]))
    rw [HW2.out, HK.out]
    clear d0 d1 d2 d3 hkc hyr
    refine (HI.out _ _ ((hE.trans e1).trans E6) HU.out).mono ?_
    rintro e w7 ⟨uu, rfl, E7, hY⟩
    obtain ⟨yb, yc, rfl⟩ : ∃ yb yc, uu = .agg #[.int .u8 (chgE f y (way / 2)).op, .int .i64 (chgE f y (way / 2)).n, .string (chgE f y (way / 2)).name, .slice yb (chgE f y (way / 2)).args.length yc] := by
      obtain ⟨ya, rfl, _, _, _, y4⟩ := hY w7 (Chg.refl _ _)
      obtain ⟨yb, yc, rfl, _⟩ := y4.form
      exact ⟨yb, yc, rfl⟩
    have HY := Lib.hid hY
    clear hY
    have hcur7 := Ext.heap E7 hcur
    have hu : ∀ c, c < 4 → ∃ z, w7.cell? ⟨g, k * 4 + c, none⟩ = some z := fun c hc => ⟨_, (blk_cell hcur7 _).trans (Array.getElem?_eq_getElem (by omega))⟩
    obtain ⟨z0, t0⟩ := hu 0 (by omega)
    obtain ⟨z1, t1⟩ := hu 1 (by omega)
    obtain ⟨z2, t2⟩ := hu 2 (by omega)
    obtain ⟨z3, t3⟩ := hu 3 (by omega)
    rw [Nat.add_zero] at t0
    have f0 := blk_free hcur7 (k * 4)
    have f1 := blk_free hcur7 (k * 4 + 1)
    have f2 := blk_free hcur7 (k * 4 + 2)
    have f3 := blk_free hcur7 (k * 4 + 3)
    have hkc : (k : Int) < (args.length : Int) := by omega
    clear hu HU
    generalize chgE f y (way / 2) = yy at *
    go_upto_region 6 with (fail)
    have hB : w.heap.size < W0.heap.size ∧ w.heap.size + 1 < W0.heap.size := ⟨lt_of_block bx, lt_of_block br⟩
    have h6 := E6.size
    have hg6 := lt_of_block hcur
    have hcur8 := blk_set4 hcur7 (k * 4) (.int .u8 yy.op) (.int .i64 yy.n) (.string yy.name) (.slice yb yy.args.length yc)
    have C8 := chg_set4 w7 g (k * 4) (.int .u8 yy.op) (.int .i64 yy.n) (.string yy.name) (.slice yb yy.args.length yc)
    have bx8 := C8.heap (Ext.heap E7 (Ext.heap E6 bx)) (by omega)
    have br8 := C8.heap (Ext.heap E7 (Ext.heap E6 br)) (by omega)
    clear t0 t1 t2 t3 f0 f1 f2 f3 x3
    generalize ((((w7.setCell ⟨g, k * 4, none⟩ (.int .u8 yy.op)).setCell ⟨g, k * 4 + 1, none⟩ (.int .i64 yy.n)).setCell ⟨g, k * 4 + 2, none⟩ (.string yy.name)).setCell ⟨g, k * 4 + 3, none⟩ (.slice yb yy.args.length yc)) = W8 at *
    have x3 := blk_cell bx8 3
    simp only [List.getElem?_toArray, List.getElem?_cons_zero, List.getElem?_cons_succ] at x3
    have f3 := blk_free bx8 3
    go_upto_region 7 with (fail)
    have C9 : Chg (fun q => q = w.heap.size) W8 (W8.setCell ⟨w.heap.size, 3, none⟩ (.slice (some ⟨g, 0, none⟩) args.length cap6)) := (Chg.refl _ _).setCell _ _ (.inl (Eq.refl _))
    have bx9 := blk_set bx8 3 (.slice (some ⟨g, 0, none⟩) args.length cap6)
    have br9 := C9.heap br8 (by omega)
    have hcur9 := C9.heap hcur8 (by omega)
    clear x3 f3
    generalize (W8.setCell ⟨w.heap.size, 3, none⟩ (.slice (some ⟨g, 0, none⟩) args.length cap6)) = W9 at *
    have x0 := blk_cell bx9 0
    have x1 := blk_cell bx9 1
    have x2 := blk_cell bx9 2
    have x3 := blk_cell bx9 3
    have r0 := blk_cell br9 0
    have r1 := blk_cell br9 1
    have r2 := blk_cell br9 2
    have r3 := blk_cell br9 3
    simp at x0 x1 x2 x3 r0 r1 r2 r3
    have f0 := blk_free br9 0
    have f1 := blk_free br9 1
    have f2 := blk_free br9 2
    have f3 := blk_free br9 3
    have C10 := chg_sets4 W9 (w.heap.size + 1) (.int .u8 op) (.int .i64 n) (.string nm) (.slice (some ⟨g, 0, none⟩) args.length cap6)
    have br10 := blk_set (blk_set (blk_set (blk_set br9 0 (.int .u8 op)) 1 (.int .i64 n)) 2 (.string nm)) 3 (.slice (some ⟨g, 0, none⟩) args.length cap6)
    have hcur10 := C10.heap hcur9 (by omega)
    go_wp2_with fail
    generalize ((((W9.setCell ⟨w.heap.size + 1, 0, none⟩ (.int .u8 op)).setCell ⟨w.heap.size + 1, 1, none⟩ (.int .i64 n)).setCell ⟨w.heap.size + 1, 2, none⟩ (.string nm)).setCell ⟨w.heap.size + 1, 3, none⟩ (.slice (some ⟨g, 0, none⟩) args.length cap6)) = W10 at *
    have s0 := blk_cell br10 0
    have s1 := blk_cell br10 1
    have s2 := blk_cell br10 2
    have s3 := blk_cell br10 3
    simp at s0 s1 s2 s3
    have D10 : Chg (fun q => w.heap.size ≤ q ∧ q < w6.heap.size) w7 W10 := ((C8.mono (fun q _ h => ⟨by omega, by omega⟩)).trans (C9.mono (fun q _ h => ⟨by omega, by omega⟩))).trans (C10.mono (fun q _ h => ⟨by omega, by omega⟩))
    have E10 : Ext w W10 := Ext.then ((e1.trans E6).trans E7) D10 (fun b hb => hb.1)
    have hs0 := hE.size
    refine bodyPost_ret (v := .agg #[.int .u8 op, .int .i64 n, .string nm, .slice (some ⟨g, 0, none⟩) args.length cap6]) ?_ rfl ⟨_, rfl, E10, fun X hX => ?_⟩
    · simp [results, Try.results22, go_sem, s0, s1, s2, s3]
    · rw [HCE.out]
      refine exa_mk h1 h2 h3 ?_
      have hrX := hrow.set4 (k := k) (q := (yy, .slice yb yy.args.length yc)) (by omega) (by omega) rfl
      have hwX : Ext w0 X := Ext.then (hE.trans E10) hX (fun b hb => hb.1)
      have DX : Chg (fun q => w0.heap.size ≤ q ∧ q < w6.heap.size) w7 X := (D10.mono (fun q _ h => ⟨by omega, h.2⟩)).trans (hX.mono (fun q _ h => ⟨h.1, by have := e1.size; omega⟩))
      have hyX := HY.out X DX
      obtain ⟨_, e, y1, y2, y3, y4⟩ := hyX
      simp only [Value.agg.injEq, Array.mk.injEq, List.cons.injEq, and_true, true_and] at e
      subst e
      have := hrX.rdEx (cap := cap6) (hX.heap hcur10 (by omega)) (fun p hp => by
        rcases List.mem_or_eq_of_mem_set hp with hp | rfl
        · exact ⟨(HPF.out p hp).1, (HPF.out p hp).2.ext hwX⟩
        · exact ⟨⟨y1, y2, y3⟩, y4⟩) (by rw [List.length_set]; omega) hc2 (by rw [List.length_set, hlen]; exact hfit')
      rw [List.map_set, HPS.out, List.length_set, hlen] at this
      exact this
end Go.Proofs.Ytcbdeoekehkbiaa
