/- changed: with a number, or yes, in the place of a part. -/
import Derived.Test.YtcbdeoekehkbiaaTyChgP
import Derived.Test.YtcbdeoekehkbiaaTyGreat
import Derived.Test.YtcbdeoekehkbiaaExOwn
import Derived.Deep.Cut
import Derived.Deep.RegionHeld3
namespace Go.Proofs.Ytcbdeoekehkbiaa
open Go.RowKit
set_option linter.unusedVariables false
set_option linter.unusedSimpArgs false

/-- What is answered lies in an elder world and in what is new: whatever is written between them, it reads the same; and whether it has a type. -/
def RetXB (y : Ex) (ok : Bool) (w0 w : World) (e : Ending) (w' : World) : Prop := ∃ u, e = .returned (.tuple #[u, .bool ok]) ∧ Ext w w' ∧ ∀ X, Chg (fun q => w0.heap.size ≤ q ∧ q < w.heap.size) w' X → ExA X y u
def EChT (p : PrD) (f : Nat) : Prop := ∀ (cs : Array Value) (x : Ex) (v : Value) (way : Nat) (w0 w : World), way < 2 ^ f → way ≤ 255 → Ext w0 w → RdPr w0 0 false p cs → ExA w0 x v →
  Calls Try.prog 31 #[.agg cs, v, .int .i64 way] w (RetXB (chgT p f x way).1 (chgT p f x way).2 w0 w)
theorem exa_stand (W : World) (t : Int) : ExA W (standT t) (.agg #[.int .u8 (standT t).op, .int .i64 (standT t).n, .string ⟨#[]⟩, .slice none 0 0]) := by
  unfold standT
  split
  · exact exa_leaf W 2 1 sNo (by unfold isU8; omega) (by unfold isI64; omega) (by unfold sNo maxLen; simp [ByteArray.size])
  · exact exa_leaf W 1 7 sNo (by unfold isU8; omega) (by unfold isI64; omega) (by unfold sNo maxLen; simp [ByteArray.size])
set_option maxRecDepth 100000 in
set_option maxHeartbeats 4000000 in
theorem changedT_leaf (p : PrD) (f : Nat) (cs : Array Value) (x : Ex) (v : Value) (way : Nat) (w0 w : World) (hz : x.args.length = 0 ∨ way = 0) (hE : Ext w0 w) (hP : RdPr w0 0 false p cs) (h : ExA w0 x v) :
    Calls Try.prog 31 #[.agg cs, v, .int .i64 way] w (RetXB (chgT p f x way).1 (chgT p f x way).2 w0 w) := by
  obtain ⟨op, n, nm, args⟩ := x
  obtain ⟨a, rfl, h1, h2, h3, h4⟩ := h
  have HPr := Lib.hid hP
  obtain ⟨ai, ci, af, cf, ao, co, rfl⟩ := pr_form hP
  clear hP
  simp only [Ex.op, Ex.n, Ex.name, Ex.args] at *
  have H4 := Lib.hid h4
  obtain ⟨aa, cap, rfl, _⟩ := h4.form
  have HC := Lib.hid (chgT_leaf (p := p) (f := f) (x := .mk op n nm args) (way := way) hz)
  have HTy := Lib.hid (fun (W : World) (hW : Ext w0 W) => tyOf_any p (.mk op n nm args) _ _ W (HPr.out.ext hW) (H4.out.ext hW) h3)
  have key : ∀ (b : Bool), ((args.length : Int) == 0) = b → (b = false → ((way : Int) == 0) = true) → Calls Try.prog 31 #[.agg #[.int .i64 p.st, .slice ai p.ins.length ci, .slice af p.flows.length cf, .slice ao p.outs.length co], .agg #[.int .u8 op, .int .i64 n, .string nm, .slice aa args.length cap], .int .i64 way] w (RetXB (chgT p f (.mk op n nm args) way).1 (chgT p f (.mk op n nm args) way).2 w0 w) := by
    intro b hb hw
    rw [HC.out]
    generalize tyP p (.mk op n nm args) = q at *
    obtain ⟨qa, qb⟩ := q
    unfold RetTO at HTy
    simp only at HTy ⊢
    clear h4 HC hz
    cases b
    all_goals (
      have hw := hw
      simp only [forall_const, reduceCtorEq, false_implies] at hw
      go_enter Try.func31, Try.ntmps31
      go_wp2_with fail
      have e0 := (Chg.refl (fun _ => False) w).alloc (.cells #[.int .i64 p.st, .slice ai p.ins.length ci, .slice af p.flows.length cf, .slice ao p.outs.length co] 36)
      have e1 := e0.alloc (.cells #[.int .u8 op, .int .i64 n, .string nm, .slice aa args.length cap] 25)
      have e2 := e1.alloc (.cells #[.int .u8 0, .int .i64 0, .string ⟨#[]⟩, .slice none 0 0] 25)
      generalize hw0 : w.alloc (.cells #[.int .i64 p.st, .slice ai p.ins.length ci, .slice af p.flows.length cf, .slice ao p.outs.length co] 36) = V0 at *
      obtain ⟨s0, b0, _⟩ := chain1 hw0
      generalize hw1 : V0.alloc (.cells #[.int .u8 op, .int .i64 n, .string nm, .slice aa args.length cap] 25) = V1 at *
      obtain ⟨s1, b1, f1⟩ := chain1 hw1
      generalize hw2 : V1.alloc (.cells #[.int .u8 0, .int .i64 0, .string ⟨#[]⟩, .slice none 0 0] 25) = V2 at *
      obtain ⟨s2, b2, f2⟩ := chain1 hw2
      rw [show V1.heap.size = w.heap.size + 1 + 1 from by omega] at b2
      clear hw0 hw1 hw2 s0 s1 s2 b0 b1
      refine (HTy.out _ (hE.trans e2)).mono ?_
      rintro e w2 ⟨rfl, E2⟩
      have B2 := Ext.heap E2 b2
      have F2 := e2.trans E2
      clear E2 b2
      have c0 := blk_cell B2 0
      have c1 := blk_cell B2 1
      have c2 := blk_cell B2 2
      have c3 := blk_cell B2 3
      have g0 := blk_free B2 0
      have g1 := blk_free B2 1
      have g2 := blk_free B2 2
      have g3 := blk_free B2 3
      simp only [List.getElem?_toArray, List.getElem?_cons_zero, List.getElem?_cons_succ] at c0 c1 c2 c3
      by_cases hq : qa = 2
      · subst hq
        go_wp2_with fail
        have C4 := chg_sets4 w2 (w.heap.size + 1 + 1) (.int .u8 2) (.int .i64 1) (.string ⟨#[]⟩) (.slice none 0 0)
        have B4 := blk_set (blk_set (blk_set (blk_set B2 0 (.int .u8 2)) 1 (.int .i64 1)) 2 (.string ⟨#[]⟩)) 3 (.slice none 0 0)
        have r0 := blk_cell B4 0
        have r1 := blk_cell B4 1
        have r2 := blk_cell B4 2
        have r3 := blk_cell B4 3
        simp at r0 r1 r2 r3
        refine bodyPost_ret (v := .tuple #[.agg #[.int .u8 2, .int .i64 1, .string ⟨#[]⟩, .slice none 0 0], .bool (qb == 0)]) ?_ rfl ⟨_, rfl, Ext.then F2 C4 (fun b hb => by omega), fun X _ => ?_⟩
        · simp [results, Try.results31, go_sem, r0, r1, r2, r3]
        · exact exa_stand X 2
      · have hqb : (qa == 2) = false := by simpa using hq
        have hst : standT qa = sevenE := by unfold standT; rw [if_neg hq]
        have HST := Lib.hid hst
        clear hst hq
        go_wp2_with fail
        have C4 := chg_sets4 w2 (w.heap.size + 1 + 1) (.int .u8 1) (.int .i64 7) (.string ⟨#[]⟩) (.slice none 0 0)
        have B4 := blk_set (blk_set (blk_set (blk_set B2 0 (.int .u8 1)) 1 (.int .i64 7)) 2 (.string ⟨#[]⟩)) 3 (.slice none 0 0)
        have r0 := blk_cell B4 0
        have r1 := blk_cell B4 1
        have r2 := blk_cell B4 2
        have r3 := blk_cell B4 3
        simp at r0 r1 r2 r3
        refine bodyPost_ret (v := .tuple #[.agg #[.int .u8 1, .int .i64 7, .string ⟨#[]⟩, .slice none 0 0], .bool (qb == 0)]) ?_ rfl ⟨_, rfl, Ext.then F2 C4 (fun b hb => by omega), fun X _ => ?_⟩
        · simp [results, Try.results31, go_sem, r0, r1, r2, r3]
        · exact by rw [HST.out]; exact exa_stand X 1)
  rcases hz with hz | hz
  · exact key true (by simp [hz]) (fun h => by cases h)
  · cases hb : ((args.length : Int) == 0)
    · exact key false hb (fun _ => by simp [hz])
    · exact key true hb (fun h => by cases h)
set_option maxRecDepth 100000 in
set_option maxHeartbeats 4000000 in
theorem changedT_any (p : PrD) : ∀ f, EChT p f := by
  intro f
  induction f with
  | zero =>
    intro cs x v way w0 w hw h255 hE hP h
    exact changedT_leaf p 0 cs x v way w0 w (.inr (by simp at hw; omega)) hE hP h
  | succ f ih =>
    intro cs x v way w0 w hw h255 hE hP h
    by_cases hz : x.args.length = 0 ∨ way = 0
    · exact changedT_leaf p (f + 1) cs x v way w0 w hz hE hP h
    obtain ⟨op, n, nm, args⟩ := x
    obtain ⟨a, rfl, h1, h2, h3, h4⟩ := h
    simp only [Ex.op, Ex.n, Ex.name, Ex.args] at *
    have hce : chgT p (f + 1) (.mk op n nm args) way = (.mk op n nm (args.set (way % args.length) (chgT p f (args.getD (way % args.length) noughtE) (way / 2)).1), (chgT p f (args.getD (way % args.length) noughtE) (way / 2)).2) := by
      rw [chgT, if_neg hz]
    obtain ⟨y, hy, hm, hg⟩ := part_of hz
    rw [hg] at hce
    have HI := Lib.hid (fun (v : Value) (w : World) (hE : Ext w0 w) (h : ExA w0 y v) => ih cs y v (way / 2) w0 w (Nat.div_lt_of_lt_mul (by rw [Nat.pow_succ, Nat.mul_comm] at hw; exact hw)) (by omega) hE hP h)
    have HCE := Lib.hid hce
    have hl0 : 0 < args.length ∧ 0 < way := by constructor <;> (apply Nat.pos_of_ne_zero; intro h; exact hz (by simp [h]))
    have b1 : ((args.length : Int) == 0) = false := by rw [beq_eq_false_iff_ne]; omega
    have b2 : ((way : Int) == 0) = false := by simp; omega
    have hkl : way % args.length < args.length := Nat.mod_lt _ hl0.1
    have hmod : (way : Int) % (args.length : Int) = ((way % args.length : Nat) : Int) := by simp
    have HW2 : Hid ((way : Int) / 2 = ((way / 2 : Nat) : Int)) := by show _ = _; simp
    generalize way % args.length = k at *
    have m1 : 0 ≤ (way : Int) % (args.length : Int) := by omega
    have m2 : (way : Int) % (args.length : Int) < (args.length : Int) := by omega
    have hkt : ((way : Int) % (args.length : Int)).toNat = k := by omega
    have HK := Lib.hid hmod
    obtain ⟨aa, cap, rfl, hfit, hcap, hcm⟩ := h4.form
    obtain ⟨ps, hps, hpf, hpc⟩ := h4.pairs
    have hlen : ps.length = args.length := by rw [← hps, List.length_map]
    obtain ⟨b, o, rfl⟩ : ∃ b o, aa = some ⟨b, o, none⟩ := by
      obtain ⟨b, o, _, hb, _⟩ := h4.get hy
      exact ⟨b, o, hb⟩
    have hnews := fun j u h => Ext.cell hE (flat_cells (hpc b o rfl) j u h)
    have hfit' : args.length * 56 ≤ 140737488351232 := hfit
    have hone := flat_one hpf
    have HPS := Lib.hid hps
    have HPF := Lib.hid hpf
    have hkp : ps[k]? = some (ps[k]'(by omega)) := List.getElem?_eq_getElem (by omega)
    have hpk : (ps[k]'(by omega)).1 = y := by
      have : (ps.map (·.1))[k]? = some y := by rw [hps]; exact hy
      rw [List.getElem?_map, hkp] at this
      simpa using this
    have HKP : Hid (∃ u, ps[k]? = some (y, u) ∧ ExFine y ∧ RdExV w0 0 false y.args u) := by
      refine ⟨(ps[k]'(by omega)).2, ?_, ?_⟩
      · rw [hkp]; exact congrArg some (Prod.ext hpk rfl)
      · have := hpf _ (List.getElem_mem (show k < ps.length by omega))
        rw [hpk] at this
        exact this
    obtain ⟨i0, hinf, hz0, hz1, hz2⟩ := info_parts infoEx
    have hPf := pr_form hP
    obtain ⟨ai, ci, af, cf, ao, co, rfl⟩ := hPf
    have e0 := (Chg.refl (fun _ => False) w).alloc (.cells #[.int .i64 p.st, .slice ai p.ins.length ci, .slice af p.flows.length cf, .slice ao p.outs.length co] 36)
    have e1 := e0.alloc (.cells #[.int .u8 op, .int .i64 n, .string nm, .slice (some ⟨b, o, none⟩) args.length cap] 25)
    have e2 := e1.alloc (.cells #[.int .u8 0, .int .i64 0, .string ⟨#[]⟩, .slice none 0 0] 25)
    clear hz hce hps hpf hpc hkp hpk hmod hy hm hg ih hw hfit
    go_enter Try.func31, Try.ntmps31
    go_upto_region 7 with (fail)
    generalize hw0 : w.alloc (.cells #[.int .i64 p.st, .slice ai p.ins.length ci, .slice af p.flows.length cf, .slice ao p.outs.length co] 36) = V0 at *
    obtain ⟨s0, b0, _⟩ := chain1 hw0
    generalize hw1 : V0.alloc (.cells #[.int .u8 op, .int .i64 n, .string nm, .slice (some ⟨b, o, none⟩) args.length cap] 25) = V1 at *
    obtain ⟨s1, b1, f1⟩ := chain1 hw1
    generalize hw2 : V1.alloc (.cells #[.int .u8 0, .int .i64 0, .string ⟨#[]⟩, .slice none 0 0] 25) = W0 at *
    obtain ⟨s2, br, f2⟩ := chain1 hw2
    rw [show V1.heap.size = w.heap.size + 1 + 1 from by omega] at br
    rw [s0] at b1
    have bx := Ext.heap f2 b1
    have bp := Ext.heap (f1.trans f2) b0
    clear hw0 hw1 hw2 s0 s1 s2 b0 b1
    have e1 := e2
    have x3 := blk_cell bx 3
    simp only [List.getElem?_toArray, List.getElem?_cons_zero, List.getElem?_cons_succ] at x3
    have hnews := fun j u h => Ext.cell e1 (hnews j u h)
    go_wp2_with (at_builtin; refine wpList_append_own_at _ rfl _ _ 23 rfl W0.heap.size 25 i0 _ 4 56 Try.underlying23 hinf hz0 hz1 hz2 rfl (by decide) (.slice none 0 0) 0 [] rfl (World.ownsRow_nil _ _ _ _) ⟨b, o, none⟩ args.length cap (ps.flatMap exP) rfl (by rw [flat_len exP_len, hlen]) hnews hone (by unfold maxLen; omega) (by omega) (Nat.le_refl _) ?_; intro v6 w6 hown6 hgrow6 hnil6 hat6; obtain ⟨g, cap6, rfl, hown7, E6⟩ := own_copy hown6 hgrow6 hl0.1; clear hown6 hgrow6 hnil6 hat6)
    obtain ⟨cur, hcur, hsz, hrow, hc1, hc2, hgb⟩ := RowOf.own (r := []) (ps := ps) exP_len (by simpa using hown7)
    obtain ⟨u, hku, hyf, hyr⟩ := HKP.out
    obtain ⟨ua, ucap, rfl, _⟩ := hyr.form
    have hkc := hrow k _ hku
    have d0 : ∀ X, Ext w6 X → X.cell? ⟨g, k * 4, none⟩ = some (.int .u8 y.op) := fun X hX => (blk_cell (Ext.heap hX hcur) (k * 4)).trans (hkc 0 (by omega))
    have d1 : ∀ X, Ext w6 X → X.cell? ⟨g, k * 4 + 1, none⟩ = some (.int .i64 y.n) := fun X hX => (blk_cell (Ext.heap hX hcur) (k * 4 + 1)).trans (hkc 1 (by omega))
    have d2 : ∀ X, Ext w6 X → X.cell? ⟨g, k * 4 + 2, none⟩ = some (.string y.name) := fun X hX => (blk_cell (Ext.heap hX hcur) (k * 4 + 2)).trans (hkc 2 (by omega))
    have d3 : ∀ X, Ext w6 X → X.cell? ⟨g, k * 4 + 3, none⟩ = some (.slice ua y.args.length ucap) := fun X hX => (blk_cell (Ext.heap hX hcur) (k * 4 + 3)).trans (hkc 3 (by omega))
    have bp6 := Ext.heap E6 bp
    have p0 : ∀ X, Ext w6 X → X.cell? ⟨w.heap.size, 0, none⟩ = some (.int .i64 p.st) := fun X hX => (blk_cell (Ext.heap hX bp6) 0).trans rfl
    have p1 : ∀ X, Ext w6 X → X.cell? ⟨w.heap.size, 1, none⟩ = some (.slice ai p.ins.length ci) := fun X hX => (blk_cell (Ext.heap hX bp6) 1).trans rfl
    have p2 : ∀ X, Ext w6 X → X.cell? ⟨w.heap.size, 2, none⟩ = some (.slice af p.flows.length cf) := fun X hX => (blk_cell (Ext.heap hX bp6) 2).trans rfl
    have p3 : ∀ X, Ext w6 X → X.cell? ⟨w.heap.size, 3, none⟩ = some (.slice ao p.outs.length co) := fun X hX => (blk_cell (Ext.heap hX bp6) 3).trans rfl
    have HU := Lib.hid (⟨_, rfl, hyf.1, hyf.2.1, hyf.2.2, hyr⟩ : ExA w0 y (.agg #[.int .u8 y.op, .int .i64 y.n, .string y.name, .slice ua y.args.length ucap]))
    rw [HK.out]
    have hkq : (k : Int) < (args.length : Int) := by omega
    have ED : Ext w6 w6.drew := (Chg.refl _ _).drew
    have ED2 : Ext w6 (w6.alloc (.cells #[.int .u8 0, .int .i64 0, .string ⟨#[]⟩, .slice none 0 0] 25)).drew := ((Chg.refl _ _).alloc _).drew
    have bY : (w6.alloc (.cells #[.int .u8 0, .int .i64 0, .string ⟨#[]⟩, .slice none 0 0] 25)).drew.heap[w6.heap.size]? = some (.cells #[.int .u8 0, .int .i64 0, .string ⟨#[]⟩, .slice none 0 0] 25 (0, 0)) := World.alloc_heap_new w6 _
    have hwr : IntKind.i64.wrap ((way : Int) / 2) = ((way / 2 : Nat) : Int) := by rw [← HW2.out, IntKind.wrap_i64] <;> omega
    have hE6 := (hE.trans e1).trans E6
    have hIc := fun (X : World) (hX : Ext w6 X) => HI.out _ X (hE6.trans hX) HU.out
    rw [← HW2.out] at hIc
    have HIc := Lib.hid hIc
    clear hIc
    generalize chgT p f y (way / 2) = yq at *
    obtain ⟨yy, yb⟩ := yq
    simp only at HCE HIc
    clear hkc hyr m1 m2 hkt HI hnews hone x3
    go_region_held3 (fun X => Ext w6 X) (first | assumption | exact Chg.alloc (by assumption) _ | exact (Ext.then F7 (chg_sets4 _ _ _ _ _ _) (fun b hb => by omega)) | exact (Ext.then (Chg.alloc F7 _) (chg_sets4 _ _ _ _ _ _) (fun b hb => by have := F7.size; omega)))
      (first
        | (go_at_call 31; refine (HIc.out (w6.alloc (.cells #[.int .u8 0, .int .i64 0, .string ⟨#[]⟩, .slice none 0 0] 25)).drew ED2).mono ?_; rintro e w7 ⟨uu, rfl, E7, hY⟩; have F7 := ED2.trans E7; have hbY := Ext.heap E7 bY; have c0 := blk_cell hbY 0; have c1 := blk_cell hbY 1; have c2 := blk_cell hbY 2; have c3 := blk_cell hbY 3; simp only [List.getElem?_toArray, List.getElem?_cons_zero, List.getElem?_cons_succ] at c0 c1 c2 c3; have g0 := blk_free hbY 0; have g1 := blk_free hbY 1; have g2 := blk_free hbY 2; have g3 := blk_free hbY 3; obtain ⟨uv, rfl, _, _, _, yv⟩ := hY w7 (Chg.refl _ _); obtain ⟨uo, uc, rfl, _⟩ := yv.form; have HY := Lib.hid hY; clear yv hY)
        | (go_at_call 31; refine (HIc.out _ ED).mono ?_; rintro e w7 ⟨uu, rfl, E7, hY⟩; have F7 := ED.trans E7; obtain ⟨uv, rfl, _, _, _, yv⟩ := hY w7 (Chg.refl _ _); obtain ⟨uo, uc, rfl, _⟩ := yv.form; have HY := Lib.hid hY; clear yv hY))
    · generalize hW8 : w7.alloc _ = W8
      obtain ⟨sW8, hbox, eW8⟩ := chain1 hW8
      have D8 : Chg (fun q => q = w7.heap.size) w7 W8 := eW8.mono (fun _ _ h => h.elim)
      have hB8 : w6.heap.size ≤ w7.heap.size := F7.size
      clear hW8 sW8 eW8
      generalize hB8e : w7.heap.size = B8 at D8 hbox hB8 ⊢
      have HB8 := Lib.hid hB8e
      clear hB8e
      have hB : w.heap.size < W0.heap.size ∧ w.heap.size + 1 < W0.heap.size ∧ w.heap.size + 1 + 1 < W0.heap.size := ⟨lt_of_block bp, lt_of_block bx, lt_of_block br⟩
      have h6 := E6.size
      have hg6 := lt_of_block hcur
      have hgB : g ≠ B8 := by omega
      have hcur7 := D8.heap (Ext.heap F7 hcur) hgB
      have bx7 := D8.heap (Ext.heap F7 (Ext.heap E6 bx)) (by omega)
      have br7 := D8.heap (Ext.heap F7 (Ext.heap E6 br)) (by omega)
      have v0 := blk_cell hbox 0
      have v1 := blk_cell hbox 1
      have v2 := blk_cell hbox 2
      have v3 := blk_cell hbox 3
      simp only [List.getElem?_toArray, List.getElem?_cons_zero, List.getElem?_cons_succ] at v0 v1 v2 v3
      have hu : ∀ c, c < 4 → ∃ z, W8.cell? ⟨g, k * 4 + c, none⟩ = some z := fun c hc => ⟨_, (blk_cell hcur7 _).trans (Array.getElem?_eq_getElem (by omega))⟩
      obtain ⟨z0, t0⟩ := hu 0 (by omega)
      obtain ⟨z1, t1⟩ := hu 1 (by omega)
      obtain ⟨z2, t2⟩ := hu 2 (by omega)
      obtain ⟨z3, t3⟩ := hu 3 (by omega)
      rw [Nat.add_zero] at t0
      have f0 := blk_free hcur7 (k * 4)
      have f1 := blk_free hcur7 (k * 4 + 1)
      have f2 := blk_free hcur7 (k * 4 + 2)
      have f3 := blk_free hcur7 (k * 4 + 3)
      clear hu d0 d1 d2 d3 p0 p1 p2 p3
      go_upto_region 10 with (fail)
      have hcur8 := blk_set4 hcur7 (k * 4) (.int .u8 yy.op) (.int .i64 yy.n) (.string yy.name) (.slice uo yy.args.length uc)
      have C8 := chg_set4 W8 g (k * 4) (.int .u8 yy.op) (.int .i64 yy.n) (.string yy.name) (.slice uo yy.args.length uc)
      have bx8 := C8.heap bx7 (by omega)
      have br8 := C8.heap br7 (by omega)
      clear t0 t1 t2 t3 f0 f1 f2 f3 v0 v1 v2 v3
      generalize ((((W8.setCell ⟨g, k * 4, none⟩ (.int .u8 yy.op)).setCell ⟨g, k * 4 + 1, none⟩ (.int .i64 yy.n)).setCell ⟨g, k * 4 + 2, none⟩ (.string yy.name)).setCell ⟨g, k * 4 + 3, none⟩ (.slice uo yy.args.length uc)) = WA at *
      have x3 := blk_cell bx8 3
      simp only [List.getElem?_toArray, List.getElem?_cons_zero, List.getElem?_cons_succ] at x3
      have f3 := blk_free bx8 3
      go_upto_region 11 with (fail)
      have C9 : Chg (fun q => q = w.heap.size + 1) WA (WA.setCell ⟨w.heap.size + 1, 3, none⟩ (.slice (some ⟨g, 0, none⟩) args.length cap6)) := (Chg.refl _ _).setCell _ _ (.inl (Eq.refl _))
      have bx9 := blk_set bx8 3 (.slice (some ⟨g, 0, none⟩) args.length cap6)
      have br9 := C9.heap br8 (by omega)
      have hcur9 := C9.heap hcur8 (by omega)
      clear x3 f3
      generalize (WA.setCell ⟨w.heap.size + 1, 3, none⟩ (.slice (some ⟨g, 0, none⟩) args.length cap6)) = W9 at *
      have x0 := blk_cell bx9 0
      have x1 := blk_cell bx9 1
      have x2 := blk_cell bx9 2
      have x3 := blk_cell bx9 3
      have r0 := blk_cell br9 0
      have r1 := blk_cell br9 1
      have r2 := blk_cell br9 2
      have r3 := blk_cell br9 3
      simp at x0 x1 x2 x3 r0 r1 r2 r3
      have f0 := blk_free br9 0
      have f1 := blk_free br9 1
      have f2 := blk_free br9 2
      have f3 := blk_free br9 3
      have C10 := chg_sets4 W9 (w.heap.size + 1 + 1) (.int .u8 op) (.int .i64 n) (.string nm) (.slice (some ⟨g, 0, none⟩) args.length cap6)
      have br10 := blk_set (blk_set (blk_set (blk_set br9 0 (.int .u8 op)) 1 (.int .i64 n)) 2 (.string nm)) 3 (.slice (some ⟨g, 0, none⟩) args.length cap6)
      have hcur10 := C10.heap hcur9 (by omega)
      go_wp2_with fail
      generalize ((((W9.setCell ⟨w.heap.size + 1 + 1, 0, none⟩ (.int .u8 op)).setCell ⟨w.heap.size + 1 + 1, 1, none⟩ (.int .i64 n)).setCell ⟨w.heap.size + 1 + 1, 2, none⟩ (.string nm)).setCell ⟨w.heap.size + 1 + 1, 3, none⟩ (.slice (some ⟨g, 0, none⟩) args.length cap6)) = W10 at *
      have s0 := blk_cell br10 0
      have s1 := blk_cell br10 1
      have s2 := blk_cell br10 2
      have s3 := blk_cell br10 3
      simp at s0 s1 s2 s3
      have D10 : Chg (fun q => w.heap.size ≤ q ∧ q < w6.heap.size ∨ q = B8) w7 W10 := (((D8.mono (fun q hq h => .inr h)).trans (C8.mono (fun q _ h => .inl ⟨by omega, by omega⟩))).trans (C9.mono (fun q _ h => .inl ⟨by omega, by omega⟩))).trans (C10.mono (fun q _ h => .inl ⟨by omega, by omega⟩))
      have E10 : Ext w W10 := Ext.then ((e1.trans E6).trans F7) D10 (fun b hb => by omega)
      have hs0 := hE.size
      refine bodyPost_ret (v := .tuple #[.agg #[.int .u8 op, .int .i64 n, .string nm, .slice (some ⟨g, 0, none⟩) args.length cap6], .bool yb]) ?_ rfl ⟨.agg #[.int .u8 op, .int .i64 n, .string nm, .slice (some ⟨g, 0, none⟩) args.length cap6], by rw [HCE.out], E10, fun X hX => ?_⟩
      · simp [results, Try.results31, go_sem, s0, s1, s2, s3]
      · rw [HCE.out]
        refine exa_mk h1 h2 h3 ?_
        have hrX := hrow.set4 (k := k) (q := (yy, .slice uo yy.args.length uc)) (by omega) (by omega) rfl
        have hwX : Ext w0 X := Ext.then (hE.trans E10) hX (fun b hb => hb.1)
        have DX : Chg (fun q => w0.heap.size ≤ q ∧ q < w6.drew.heap.size) w7 X := (D10.mono (fun q hq h => by
          have hz : w6.heap.size ≤ w6.drew.heap.size := (Nat.le_refl _)
          rcases h with h | h
          · exact ⟨by omega, by omega⟩
          · exact ⟨by omega, by have := HB8.out; omega⟩)).trans (hX.mono (fun q _ h => ⟨h.1, by have := e1.size; have hz : w6.heap.size ≤ w6.drew.heap.size := (Nat.le_refl _); omega⟩))
        have hyX := HY.out X DX
        obtain ⟨_, e, y1, y2, y3, y4⟩ := hyX
        simp only [Value.agg.injEq, Array.mk.injEq, List.cons.injEq, and_true, true_and] at e
        subst e
        have := hrX.rdEx (cap := cap6) (hX.heap hcur10 (by omega)) (fun p hp => by
          rcases List.mem_or_eq_of_mem_set hp with hp | rfl
          · exact ⟨(HPF.out p hp).1, (HPF.out p hp).2.ext hwX⟩
          · exact ⟨⟨y1, y2, y3⟩, y4⟩) (by rw [List.length_set]; omega) hc2 (by rw [List.length_set, hlen]; exact hfit')
        rw [List.map_set, HPS.out, List.length_set, hlen] at this
        exact this
    · have hbox := blk_set (blk_set (blk_set (blk_set hbY 0 (.int .u8 yy.op)) 1 (.int .i64 yy.n)) 2 (.string yy.name)) 3 (.slice uo yy.args.length uc)
      have hbox : ((((w7.setCell ⟨w6.heap.size, 0, none⟩ (.int .u8 yy.op)).setCell ⟨w6.heap.size, 1, none⟩ (.int .i64 yy.n)).setCell ⟨w6.heap.size, 2, none⟩ (.string yy.name)).setCell ⟨w6.heap.size, 3, none⟩ (.slice uo yy.args.length uc)).heap[w6.heap.size]? = some (.cells #[.int .u8 yy.op, .int .i64 yy.n, .string yy.name, .slice uo yy.args.length uc] 25 (0, 0)) := hbox
      have D8 := chg_sets4 w7 w6.heap.size (.int .u8 yy.op) (.int .i64 yy.n) (.string yy.name) (.slice uo yy.args.length uc)
      have hwsz : (w6.alloc (.cells #[.int .u8 0, .int .i64 0, .string ⟨#[]⟩, .slice none 0 0] 25)).drew.heap.size = w6.heap.size + 1 := by show (w6.alloc _).heap.size = _; simp
      clear c0 c1 c2 c3 g0 g1 g2 g3 hbY
      generalize ((((w7.setCell ⟨w6.heap.size, 0, none⟩ (.int .u8 yy.op)).setCell ⟨w6.heap.size, 1, none⟩ (.int .i64 yy.n)).setCell ⟨w6.heap.size, 2, none⟩ (.string yy.name)).setCell ⟨w6.heap.size, 3, none⟩ (.slice uo yy.args.length uc)) = W8 at *
      generalize hB8e : w6.heap.size = B8 at D8 hbox ⊢
      have HB8 := Lib.hid hB8e
      have hB8 := Nat.le_of_eq hB8e
      clear hB8e
      have hB : w.heap.size < W0.heap.size ∧ w.heap.size + 1 < W0.heap.size ∧ w.heap.size + 1 + 1 < W0.heap.size := ⟨lt_of_block bp, lt_of_block bx, lt_of_block br⟩
      have h6 := E6.size
      have hg6 := lt_of_block hcur
      have hgB : g ≠ B8 := by have := HB8.out; omega
      have hcur7 := D8.heap (Ext.heap F7 hcur) hgB
      have bx7 := D8.heap (Ext.heap F7 (Ext.heap E6 bx)) (by omega)
      have br7 := D8.heap (Ext.heap F7 (Ext.heap E6 br)) (by omega)
      have v0 := blk_cell hbox 0
      have v1 := blk_cell hbox 1
      have v2 := blk_cell hbox 2
      have v3 := blk_cell hbox 3
      simp only [List.getElem?_toArray, List.getElem?_cons_zero, List.getElem?_cons_succ] at v0 v1 v2 v3
      have hu : ∀ c, c < 4 → ∃ z, W8.cell? ⟨g, k * 4 + c, none⟩ = some z := fun c hc => ⟨_, (blk_cell hcur7 _).trans (Array.getElem?_eq_getElem (by omega))⟩
      obtain ⟨z0, t0⟩ := hu 0 (by omega)
      obtain ⟨z1, t1⟩ := hu 1 (by omega)
      obtain ⟨z2, t2⟩ := hu 2 (by omega)
      obtain ⟨z3, t3⟩ := hu 3 (by omega)
      rw [Nat.add_zero] at t0
      have f0 := blk_free hcur7 (k * 4)
      have f1 := blk_free hcur7 (k * 4 + 1)
      have f2 := blk_free hcur7 (k * 4 + 2)
      have f3 := blk_free hcur7 (k * 4 + 3)
      clear hu d0 d1 d2 d3 p0 p1 p2 p3
      go_upto_region 10 with (fail)
      have hcur8 := blk_set4 hcur7 (k * 4) (.int .u8 yy.op) (.int .i64 yy.n) (.string yy.name) (.slice uo yy.args.length uc)
      have C8 := chg_set4 W8 g (k * 4) (.int .u8 yy.op) (.int .i64 yy.n) (.string yy.name) (.slice uo yy.args.length uc)
      have bx8 := C8.heap bx7 (by omega)
      have br8 := C8.heap br7 (by omega)
      clear t0 t1 t2 t3 f0 f1 f2 f3 v0 v1 v2 v3
      generalize ((((W8.setCell ⟨g, k * 4, none⟩ (.int .u8 yy.op)).setCell ⟨g, k * 4 + 1, none⟩ (.int .i64 yy.n)).setCell ⟨g, k * 4 + 2, none⟩ (.string yy.name)).setCell ⟨g, k * 4 + 3, none⟩ (.slice uo yy.args.length uc)) = WA at *
      have x3 := blk_cell bx8 3
      simp only [List.getElem?_toArray, List.getElem?_cons_zero, List.getElem?_cons_succ] at x3
      have f3 := blk_free bx8 3
      go_upto_region 11 with (fail)
      have C9 : Chg (fun q => q = w.heap.size + 1) WA (WA.setCell ⟨w.heap.size + 1, 3, none⟩ (.slice (some ⟨g, 0, none⟩) args.length cap6)) := (Chg.refl _ _).setCell _ _ (.inl (Eq.refl _))
      have bx9 := blk_set bx8 3 (.slice (some ⟨g, 0, none⟩) args.length cap6)
      have br9 := C9.heap br8 (by omega)
      have hcur9 := C9.heap hcur8 (by omega)
      clear x3 f3
      generalize (WA.setCell ⟨w.heap.size + 1, 3, none⟩ (.slice (some ⟨g, 0, none⟩) args.length cap6)) = W9 at *
      have x0 := blk_cell bx9 0
      have x1 := blk_cell bx9 1
      have x2 := blk_cell bx9 2
      have x3 := blk_cell bx9 3
      have r0 := blk_cell br9 0
      have r1 := blk_cell br9 1
      have r2 := blk_cell br9 2
      have r3 := blk_cell br9 3
      simp at x0 x1 x2 x3 r0 r1 r2 r3
      have f0 := blk_free br9 0
      have f1 := blk_free br9 1
      have f2 := blk_free br9 2
      have f3 := blk_free br9 3
      have C10 := chg_sets4 W9 (w.heap.size + 1 + 1) (.int .u8 op) (.int .i64 n) (.string nm) (.slice (some ⟨g, 0, none⟩) args.length cap6)
      have br10 := blk_set (blk_set (blk_set (blk_set br9 0 (.int .u8 op)) 1 (.int .i64 n)) 2 (.string nm)) 3 (.slice (some ⟨g, 0, none⟩) args.length cap6)
      have hcur10 := C10.heap hcur9 (by omega)
      go_wp2_with fail
      generalize ((((W9.setCell ⟨w.heap.size + 1 + 1, 0, none⟩ (.int .u8 op)).setCell ⟨w.heap.size + 1 + 1, 1, none⟩ (.int .i64 n)).setCell ⟨w.heap.size + 1 + 1, 2, none⟩ (.string nm)).setCell ⟨w.heap.size + 1 + 1, 3, none⟩ (.slice (some ⟨g, 0, none⟩) args.length cap6)) = W10 at *
      have s0 := blk_cell br10 0
      have s1 := blk_cell br10 1
      have s2 := blk_cell br10 2
      have s3 := blk_cell br10 3
      simp at s0 s1 s2 s3
      have D10 : Chg (fun q => w.heap.size ≤ q ∧ q < w6.heap.size ∨ q = B8) w7 W10 := (((D8.mono (fun q _ h => .inr h)).trans (C8.mono (fun q _ h => .inl ⟨by omega, by omega⟩))).trans (C9.mono (fun q _ h => .inl ⟨by omega, by omega⟩))).trans (C10.mono (fun q _ h => .inl ⟨by omega, by omega⟩))
      have E10 : Ext w W10 := Ext.then ((e1.trans E6).trans F7) D10 (fun b hb => by omega)
      have hs0 := hE.size
      refine bodyPost_ret (v := .tuple #[.agg #[.int .u8 op, .int .i64 n, .string nm, .slice (some ⟨g, 0, none⟩) args.length cap6], .bool yb]) ?_ rfl ⟨.agg #[.int .u8 op, .int .i64 n, .string nm, .slice (some ⟨g, 0, none⟩) args.length cap6], by rw [HCE.out], E10, fun X hX => ?_⟩
      · simp [results, Try.results31, go_sem, s0, s1, s2, s3]
      · rw [HCE.out]
        refine exa_mk h1 h2 h3 ?_
        have hrX := hrow.set4 (k := k) (q := (yy, .slice uo yy.args.length uc)) (by omega) (by omega) rfl
        have hwX : Ext w0 X := Ext.then (hE.trans E10) hX (fun b hb => hb.1)
        have DX : Chg (fun q => w0.heap.size ≤ q ∧ q < (w6.alloc (.cells #[.int .u8 0, .int .i64 0, .string ⟨#[]⟩, .slice none 0 0] 25)).drew.heap.size) w7 X := (D10.mono (fun q hq h => by
          have hz : w6.heap.size ≤ (w6.alloc (.cells #[.int .u8 0, .int .i64 0, .string ⟨#[]⟩, .slice none 0 0] 25)).drew.heap.size := (by rw [hwsz]; omega)
          rcases h with h | h
          · exact ⟨by omega, by omega⟩
          · exact ⟨by omega, by (have := HB8.out; rw [hwsz]; omega)⟩)).trans (hX.mono (fun q _ h => ⟨h.1, by have := e1.size; have hz : w6.heap.size ≤ (w6.alloc (.cells #[.int .u8 0, .int .i64 0, .string ⟨#[]⟩, .slice none 0 0] 25)).drew.heap.size := (by rw [hwsz]; omega); omega⟩))
        have hyX := HY.out X DX
        obtain ⟨_, e, y1, y2, y3, y4⟩ := hyX
        simp only [Value.agg.injEq, Array.mk.injEq, List.cons.injEq, and_true, true_and] at e
        subst e
        have := hrX.rdEx (cap := cap6) (hX.heap hcur10 (by omega)) (fun p hp => by
          rcases List.mem_or_eq_of_mem_set hp with hp | rfl
          · exact ⟨(HPF.out p hp).1, (HPF.out p hp).2.ext hwX⟩
          · exact ⟨⟨y1, y2, y3⟩, y4⟩) (by rw [List.length_set]; omega) hc2 (by rw [List.length_set, hlen]; exact hfit')
        rw [List.map_set, HPS.out, List.length_set, hlen] at this
        exact this
end Go.Proofs.Ytcbdeoekehkbiaa
