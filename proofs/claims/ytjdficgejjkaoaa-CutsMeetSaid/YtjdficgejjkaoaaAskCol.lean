/- slices.Collect of askings. -/
import Derived.Test.YtjdficgejjkaoaaAskIt
import Derived.RangeFuncBox
import Derived.Maps.AppendAt
namespace Go.Proofs.Ytjdficgejjkaoaa
open Go.RowKit Go.Shelf
attribute [local go_sem] Oper.semAt_some
set_option linter.unusedVariables false
set_option linter.unusedSimpArgs false

def ask5 (x : Ask) : List Value := [.int .i64 x.flow, .int .i64 x.src, .int .i64 x.more, .string x.ref.1, .int .i64 x.ref.2]
theorem ask5_len (x : Ask) : (ask5 x).length = 5 := rfl
theorem infoAk : (Try.prog.info? 84).map (fun i => (i.zero, i.size, i.bytes)) = some (some (.agg #[.int .i64 0, .int .i64 0, .int .i64 0, .string ByteArray.empty, .int .i64 0]), 5, 48) := by kernel_rfl
/-- A list of askings of one's own. -/
def AkV (w : World) (base : Nat) (l : List Ask) (v : Value) : Prop := w.ownsRow base 84 5 v l.length (l.flatMap ask5)
def RetAks (l : List Ask) (w : World) (e : Ending) (w' : World) : Prop := ∃ v, e = .returned v ∧ AkV w' w.heap.size l v ∧ Ext w w'
theorem ak_map {p : PrD} {ys : List (AskS p)} {l : List Ask} (h : ys.map (·.1) = l) : ys.length = l.length ∧ (ys.flatMap fun x => ask5 x.1) = l.flatMap ask5 := by
  subst h
  simp [List.flatMap_map]
theorem kpT_appended {n0 base B k : Nat} {W w1 : World} {v v' : Value} {tmp : Obj} {xs : List Value} (hv : Boxed W B 92 v) (hrow : W.ownsRow base 84 5 v k xs) (hg : (W.alloc tmp).grownBy w1 v.ownBlock)
    (hb : Below n0 W (w1.setCell ⟨B, 0, none⟩ v')) : KpT n0 W (w1.setCell ⟨B, 0, none⟩ v') := by
  refine ⟨hb, fun j cs t f hj h1 h2 => ?_⟩
  have hjl : j < W.heap.size := (Array.getElem?_eq_some_iff.1 hj).1
  have hjB : j ≠ B := by
    rintro rfl
    rw [show W.heap[j]? = _ from hv] at hj
    cases hj
    exact h2 rfl
  rw [Below.heap_setCell _ _ _ _ hjB, hg.block j (by simp; omega) (fun e => ?_), Below.heap_alloc _ _ _ hjl]
  · exact hj
  · rcases hrow.2 with ⟨rfl, _⟩ | ⟨g, cap, cur, rfl, _, hgb, _⟩
    · cases e
    · simp only [Value.ownBlock, Option.some.injEq] at e
      subst e
      rw [hgb] at hj
      cases hj
      exact h1 rfl
set_option maxRecDepth 100000 in
set_option maxHeartbeats 4000000 in
theorem appendSeq_any (p : PrD) (cs : Array Value) (w : World) (Bs : Nat) (hP : RdPr w 0 false p cs) (hok : progP p = true) (hB : w.heap[Bs]? = some (.cells cs 26 (0, 0))) :
    Calls Try.prog 70 #[.slice none 0 0, .func (.func 64) #[] #[.pointer (some ⟨Bs, 0, none⟩)]] w (RetAks (asksP p) w) := by
  have HN := Lib.hid (asksP_len hok)
  have e0 : Ext w (w.alloc (.cells #[.slice none 0 0] 92)) := (Chg.refl _ _).alloc _
  have sb := Boxed.new w 92 (.slice none 0 0)
  have hs0 : (w.alloc (.cells #[.slice none 0 0] 92)).heap.size = w.heap.size + 1 := by simp
  obtain ⟨i0, hinf, hz0, hz1, hz2⟩ := info_parts infoAk
  refine (callsIn_wide (n := 8)).1 ?_
  refine callsIn_of_wp_marks Try.func70 rfl trivial ?_ rfl
  simp only [Try.ntmps70, List.size_toArray, List.length_cons, List.length_nil, Nat.reduceAdd, Nat.reduceSub, Array.replicate_succ, Array.replicate_zero, List.push_toArray, List.append_toArray, List.nil_append, List.cons_append]
  gi_wp2
  generalize (w.alloc (.cells #[.slice none 0 0] 92)) = W0 at *
  refine wpIn_rangeFunc_ownH rfl (by omega) (gf := 64) (lb := #[.pointer (some ⟨Bs, 0, none⟩)]) rfl trivial (enters_of Try.func64 (by kernel_rfl) rfl)
    (askings_iter 7 (by omega) Bs p w cs hP hok hB) kpT_t (fun W l o o' hl => kpT_b (m := W0.heap.size) (by omega) W l o o' hl) (Ext.below e0) (fun _ => rfl)
    (fun pre W => (∃ v, Boxed W w.heap.size 92 v ∧ W.ownsRow w.heap.size 84 5 v pre.length (pre.flatMap fun x => ask5 x.1) ∧ True) ∧ Below w.heap.size w W) (fun _ _ _ => False)
    (OwnFrom.and (Own.from (holdsRow_own (β := List (AskS p)) w.heap.size w.heap.size 92 84 5 (fun pre => pre.length) (fun pre => pre.flatMap fun x => ask5 x.1) (fun _ _ => True)) _) (ownFrom_below (Nat.le_refl _) (by omega)))
    (fun c s W W' row h _ _ => h.elim) ⟨⟨_, sb, World.ownsRow_nil _ _ _ _, trivial⟩, Ext.below e0⟩
    (fun x a' W => ∃ Bx, W0.heap.size ≤ Bx ∧ W.heap[Bx]? = some (.cells #[.int .i64 x.1.flow, .int .i64 x.1.src, .int .i64 x.1.more, .string x.1.ref.1, .int .i64 x.1.ref.2] 84 (0, 0)) ∧ W0.heap.size ≤ W.heap.size ∧ a' = { tmps := #[.slice none 0 0, .func (.func 64) #[] #[.pointer (some ⟨Bs, 0, none⟩)], .pointer (some ⟨w.heap.size, 0, none⟩), undef, .slice none 0 0, .pointer (some ⟨Bx, 0, none⟩), .func (.func 64) #[] #[.pointer (some ⟨Bs, 0, none⟩)], askV x.1, undef, undef, undef, undef, undef], defers := [] })
    (fun x a' _ X Y row hs hg hr => by obtain ⟨Bx, h1, h2, h3, h4⟩ := hs; exact ⟨Bx, h1, blkept h2 hg hr, by have := hg.size; omega, h4⟩)
    ?assign ?body ?done ?stop
  case assign =>
    rintro l pre x W K ⟨⟨v, hv, hrow, _⟩, hB⟩ hK
    simp only [askC, askV]
    gi_wp2
    have hvl := hv.lt
    have E : Ext W (W.alloc (.cells #[.int .i64 x.1.flow, .int .i64 x.1.src, .int .i64 x.1.more, .string x.1.ref.1, .int .i64 x.1.ref.2] 84)) := (Chg.refl _ _).alloc _
    exact hK _ _ ((KeepsOthers.alloc _ _).from _) (Ext.kpT E (by omega)) ⟨⟨v, hv.alloc _, hrow.alloc _, trivial⟩, hB.alloc hB.size _⟩ ⟨W.heap.size, by omega, World.alloc_heap_new W _, by simp; omega, rfl⟩
  case body =>
    rintro l pre x a' W hl ⟨r, hr⟩ ⟨⟨v, hv, hrow, _⟩, hB⟩ ⟨Bx, hBx, bX, hWs, rfl⟩ hlt
    have hvc := hv.cell
    have c0 := blk_cell bX 0
    have c1 := blk_cell bX 1
    have c2 := blk_cell bX 2
    have c3 := blk_cell bX 3
    have c4 := blk_cell bX 4
    simp only [List.getElem?_toArray, List.getElem?_cons_zero, List.getElem?_cons_succ] at c0 c1 c2 c3 c4
    have hn := HN.out
    have hnews := cell_many_new W (ask5 x.1) 84
    have hle : w.heap.size ≤ W.heap.size := hB.size
    have hone : ∀ u ∈ ask5 x.1, u.oneCell' = true := by simp [ask5, Value.oneCell']
    have HX := Lib.hid hrow
    gi_wp2_with (gi_at_builtin; refine wpListIn_append_own _ rfl _ _ 92 rfl w.heap.size 84 i0 _ 5 48 Try.underlying92 hinf hz0 hz1 hz2 rfl (by decide) _ _ _ rfl (hrow.alloc _) ⟨W.heap.size, 0, none⟩ 1 1 (ask5 x.1) rfl rfl hnews hone (by unfold maxLen; omega) (by omega) (by simp; omega) ?_; intro v' w1 hown' hgrow _; obtain ⟨g', cap', rfl⟩ := ownsRow_succ hown'; obtain ⟨hv1, hv2, hr2, hk2, hb2⟩ := hv.appended (by decide) hrow hle (Nat.le_refl _) hown' hgrow; have hkp := Lib.hid (kpT_appended hv hrow hgrow hb2); have hc1 := hv1.cell; have hf1 := hv1.frozen)
    exact ⟨hk2.from _, hkp.out, ⟨⟨_, hv2, by rw [List.length_append, List.flatMap_append]; simpa using hr2, trivial⟩, hB.trans hb2⟩⟩
  case done =>
    rintro D ys W hD hys ⟨⟨v, hv, hrow, _⟩, hB⟩ hK
    have hvc := hv.cell
    have hfin : Ext w (W.putObj D (.deferred none)) := Ext.of_below (hB.trans (belowK_b (w := w) (Nat.le_refl _) W D _ _ (by omega) hK rfl rfl))
    have hrow2 := ownsRow_putObj hrow (.deferred none) hK rfl
    obtain ⟨h1, h2⟩ := ak_map hys
    rw [h1, h2] at hrow2
    gi_wp2
    refine ⟨by simp, .inl ⟨_, _, rfl, run_takeDeferred hK, ?_⟩⟩
    refine ⟨v, ?_, v, rfl, hrow2, hfin⟩
    simp [results, Try.results70, go_sem]
  case stop =>
    rintro D c pre W hD _ h hK
    exact h.elim
theorem collect_any (p : PrD) (cs : Array Value) (w : World) (Bs : Nat) (hP : RdPr w 0 false p cs) (hok : progP p = true) (hB : w.heap[Bs]? = some (.cells cs 26 (0, 0))) :
    Calls Try.prog 46 #[.func (.func 64) #[] #[.pointer (some ⟨Bs, 0, none⟩)]] w (RetAks (asksP p) w) := by
  have H := Lib.hid (appendSeq_any p cs w Bs hP hok hB)
  generalize asksP p = l at *
  go_enter Try.func46, Try.ntmps46
  go_wp2_with fail
  refine H.out.mono ?_
  rintro e w1 ⟨v, rfl, h1, h2⟩
  go_wp2_with fail
  go_ret
  exact ⟨v, rfl, h1, h2⟩
end Go.Proofs.Ytjdficgejjkaoaa
