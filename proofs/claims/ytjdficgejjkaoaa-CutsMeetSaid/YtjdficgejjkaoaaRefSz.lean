/- The document's size and Check. -/
import Derived.Test.YtjdficgejjkaoaaChk
namespace Go.Proofs.Ytjdficgejjkaoaa
open Go.RowKit
set_option linter.unusedVariables false

set_option maxHeartbeats 1000000 in
/-- exprs.Check. -/
theorem exCheck_any (x : Ex) (v : Value) (w : World) (hv : RdExV w 0 false x.args v) (hnm : x.name.size ≤ maxLen) :
    Calls Try.prog 76 #[.agg #[.int .u8 x.op, .int .i64 x.n, .string x.name, v]] w fun e w' => e = .returned (.bool (okE 32 200 x)) ∧ Ext w w' := by
  have hc := fun W B (hE : Ext w W) (hB : w.heap.size ≤ B) (hb : Boxed W B 3 (.int .i64 200)) => check_any x v w W B 200 32 hv hnm hE hB hb (by omega) (by omega) (by omega)
  obtain ⟨a, cap, rfl, _⟩ := hv.form
  have hc' : ∀ W B, Ext w W → w.heap.size ≤ B → Boxed W B 3 (.int .i64 200) → Calls Try.prog 91 #[.agg #[.int .u8 x.op, .int .i64 x.n, .string x.name, .slice a x.args.length cap], .pointer (some ⟨B, 0, none⟩), .int .i64 32] W (RetChk W B x 32 200) := hc
  have HC := Lib.hid hc'
  clear hc hc' hv
  have hb := Boxed.new (w.alloc (.cells #[.int .u8 x.op, .int .i64 x.n, .string x.name, .slice a x.args.length cap] 53)) 3 (.int .i64 200)
  rw [World.size_alloc] at hb
  have HB := Lib.hid hb
  generalize hr : okE 32 200 x = r
  have hE0 : Ext w ((w.alloc (.cells #[.int .u8 x.op, .int .i64 x.n, .string x.name, .slice a x.args.length cap] 53)).alloc (.cells #[.int .i64 200] 3)) := ((Chg.refl _ _).alloc _).alloc _
  clear hb
  go_enter Try.func76, Try.ntmps76
  go_wp2_with fail
  refine (HC.out _ _ hE0 (by omega) HB.out).mono ?_
  rintro e w1 ⟨m', he, _, _, hC⟩
  rw [hr] at he
  subst he
  have E1 : Ext w w1 := Ext.then hE0 hC (fun b hb => by omega)
  go_wp2_with fail
  go_ret
  exact ⟨rfl, E1⟩
def RetSz (w : World) (x : Ex) (d : Nat) (m : Int) (e : Ending) (w' : World) : Prop := e = .returned (.int .i64 (if okE d m x = true then (nodesE x : Int) else -1)) ∧ Ext w w'
theorem retSz {w w' : World} {x : Ex} {d : Nat} {m n : Int} {b : Bool} (h : okE d m x = b) (ht : b = true → n = nodesE x) (hf : b = false → n = -1) (hE : Ext w w') : RetSz w x d m (.returned (.int .i64 n)) w' := by
  subst h
  refine ⟨?_, hE⟩
  cases hb : okE d m x
  · rw [hf hb]; simp
  · rw [ht hb]; simp
/-- size's contract at x. -/
def ESz (x : Ex) : Prop := ∀ (v : Value) (w : World) (m : Int) (d : Nat), RdExV w 0 false x.args v → x.name.size ≤ maxLen → 0 ≤ m → m ≤ 200 → d ≤ 32 →
  Calls Try.prog 99 #[.agg #[.int .u8 x.op, .int .i64 x.n, .string x.name, v], .int .i64 d, .int .i64 m] w (RetSz w x d m)
set_option maxRecDepth 100000 in
set_option maxHeartbeats 4000000 in
theorem size_any : ∀ x, ESz x := by
  refine Ex.ind fun op n nm args ih => ?_
  intro v w m d hv hnm hm0 hm1 hd
  simp only [Ex.op, Ex.n, Ex.name, Ex.args] at *
  obtain ⟨a, cap, rfl, hrest⟩ := hv
  have hv : RdExV w 0 false args (.slice a args.length cap) := ⟨a, cap, rfl, hrest⟩
  clear hrest
  go_enter Try.func99, Try.ntmps99
  go_wp2_with fail
  have WX := heap_alloc_new w (.cells #[.int .u8 op, .int .i64 n, .string nm, .slice a args.length cap] 53)
  have WC : Ext w (w.alloc (.cells #[.int .u8 op, .int .i64 n, .string nm, .slice a args.length cap] 53)) := (Chg.refl _ _).alloc _
  generalize (w.alloc (.cells #[.int .u8 op, .int .i64 n, .string nm, .slice a args.length cap] 53)) = W at *
  have x0 := blk_cell WX 0
  have x1 := blk_cell WX 1
  have x2 := blk_cell WX 2
  have x3 := blk_cell WX 3
  simp only [List.getElem?_toArray, List.getElem?_cons_zero, List.getElem?_cons_succ] at x0 x1 x2 x3
  cases d with
  | zero =>
    have hq : okE 0 m (.mk op n nm args) = false := by simp [okE, wfE]
    go_region
    go_wp2_with fail
    go_ret
    exact retSz hq no_true (fun _ => rfl) WC.drew
  | succ d =>
  have hd2 : ¬ ((d : Int) + 1 = 0) := by omega
  have bd : ((d : Int) + 1 == 0) = false := by simpa using hd2
  have bd' : (((d + 1 : Nat) : Int) == 0) = false := by simpa using hd2
  by_cases hm : m = 0
  · subst hm
    have hq : okE (d + 1) 0 (.mk op n nm args) = false := by
      rw [Bool.eq_false_iff, ne_eq, okE_iff]
      simp only [nodesE]
      omega
    go_region
    go_wp2_with fail
    go_ret
    exact retSz hq no_true (fun _ => rfl) WC.drew
  have bm : (m == 0) = false := by simpa using hm
  have hm3 : 1 ≤ m := by omega
  have d0 := (World.cell?_drew (w := W) (a := ⟨w.heap.size, 0, none⟩)).trans x0
  have d3 := (World.cell?_drew (w := W) (a := ⟨w.heap.size, 3, none⟩)).trans x3
  have HI := Lib.hid ih
  clear ih
  go_region_held3 (fun X => X.cell? ⟨w.heap.size, 0, none⟩ = some (.int .u8 op) ∧ X.cell? ⟨w.heap.size, 3, none⟩ = some (.slice a args.length cap))
    (first | (with_reducible exact ⟨d0, d3⟩))
    (first
      | (go_at_call 109; refine (many_one op _).mono ?_; rintro e w3 ⟨rfl, rfl⟩))
  have WC3 := WC.drew
  clear d0 d3
  by_cases hp : partsP op = (args.length : Int)
  · have hp2 : (partsP op != (args.length : Int)) = false := by simpa using hp
    have HP := Lib.hid hp
    clear hp
    rw [hp2]
    clear hp2
    have hlen : args.length ≤ 9000000000000000000 := by obtain ⟨_, _, _, hf, _⟩ := hv; unfold fitsR at hf; omega
    have y0 := (World.cell?_drew (w := W) (a := ⟨w.heap.size, 0, none⟩)).trans x0
    have y1 := (World.cell?_drew (w := W) (a := ⟨w.heap.size, 1, none⟩)).trans x1
    have y2 := (World.cell?_drew (w := W) (a := ⟨w.heap.size, 2, none⟩)).trans x2
    have y3 := (World.cell?_drew (w := W) (a := ⟨w.heap.size, 3, none⟩)).trans x3
    have WX3 : W.drew.heap[w.heap.size]? = _ := WX
    clear x0 x1 x2 x3 WX WC
    generalize W.drew = W3 at *
    have hzero : op = 1 ∨ op = 2 ∨ op = 3 → args.length = 0 := fun h => by
      have := HP.out
      rw [show partsP op = 0 from by simp [partsP, h]] at this
      omega
    by_cases h1 : op = 1
    · subst h1
      have hlf := Lib.hid (ok_leaf (d := d) (m := m) (n := n) (nm := nm) (l := args) (.inl rfl) HP.out hm3)
      have hz := hzero (.inl rfl)
      have q0 : ¬ (0 : Int) < (args.length : Int) := by omega
      clear hzero
      by_cases hn : 0 ≤ n
      · have hn2 : ¬ n < 0 := by omega
        by_cases he : nm.toList = []
        · have he2 : nm.toList.isEmpty = true := by simp [he]
          go_wp2_with fail
          go_loop [7, 8] (fun n i => n = .int .i64 1 ∧ i = .int .i64 0) (fun _ _ => 0)
          case atStart => exact ⟨rfl, rfl⟩
          case round =>
            obtain ⟨rfl, rfl⟩ := hrel
            go_wp2_with fail
            go_ret
            exact retSz (b := true) (hlf.out.1.trans (by simp [headP, he, hn])) (fun _ => by rw [hlf.out.2]; rfl) (by simp) (WC3)
        · have he2 : nm.toList.isEmpty = false := by simp [he]
          go_wp2_with fail
          go_ret
          exact retSz (b := false) (hlf.out.1.trans (by simp [headP, he])) no_true (fun _ => rfl) (WC3)
      · have hn2 : n < 0 := by omega
        have HNN := Lib.hid hn
        go_wp2_with fail
        go_ret
        exact retSz (b := false) (hlf.out.1.trans (by simp [headP]; intro h; have := HNN.out; omega)) no_true (fun _ => rfl) WC3
    by_cases h2 : op = 2
    · subst h2
      have hlf := Lib.hid (ok_leaf (d := d) (m := m) (n := n) (nm := nm) (l := args) (.inr (.inl rfl)) HP.out hm3)
      have hz := hzero (.inr (.inl rfl))
      have q0 : ¬ (0 : Int) < (args.length : Int) := by omega
      clear hzero
      by_cases hn : n = 0
      · subst hn
        by_cases he : nm.toList = []
        · have he2 : nm.toList.isEmpty = true := by simp [he]
          go_wp2_with fail
          go_loop [7, 8] (fun n i => n = .int .i64 1 ∧ i = .int .i64 0) (fun _ _ => 0)
          case atStart => exact ⟨rfl, rfl⟩
          case round =>
            obtain ⟨rfl, rfl⟩ := hrel
            go_wp2_with fail
            go_ret
            exact retSz (b := true) (hlf.out.1.trans (by simp [headP, he])) (fun _ => by rw [hlf.out.2]; rfl) (by simp) (WC3)
        · have he2 : nm.toList.isEmpty = false := by simp [he]
          go_wp2_with fail
          go_ret
          exact retSz (b := false) (hlf.out.1.trans (by simp [headP, he])) no_true (fun _ => rfl) (WC3)
      · have bn : (n == 0) = false := by simpa using hn
        have bn' : (n != 0) = true := by simpa using hn
        by_cases hn1 : n = 1
        · subst hn1
          by_cases he : nm.toList = []
          · have he2 : nm.toList.isEmpty = true := by simp [he]
            go_wp2_with fail
            go_loop [7, 8] (fun n i => n = .int .i64 1 ∧ i = .int .i64 0) (fun _ _ => 0)
            case atStart => exact ⟨rfl, rfl⟩
            case round =>
              obtain ⟨rfl, rfl⟩ := hrel
              go_wp2_with fail
              go_ret
              exact retSz (b := true) (hlf.out.1.trans (by simp [headP, he])) (fun _ => by rw [hlf.out.2]; rfl) (by simp) (WC3)
          · have he2 : nm.toList.isEmpty = false := by simp [he]
            go_wp2_with fail
            go_ret
            exact retSz (b := false) (hlf.out.1.trans (by simp [headP, he])) no_true (fun _ => rfl) (WC3)
        · have bn1 : (n == 1) = false := by simpa using hn1
          have bn1' : (n != 1) = true := by simpa using hn1
          go_wp2_with fail
          go_ret
          exact retSz (b := false) (hlf.out.1.trans (by simp [headP, hn, hn1])) no_true (fun _ => rfl) (WC3)
    by_cases h3 : op = 3
    · subst h3
      have hlf := Lib.hid (ok_leaf (d := d) (m := m) (n := n) (nm := nm) (l := args) (.inr (.inr rfl)) HP.out hm3)
      have hz := hzero (.inr (.inr rfl))
      have q0 : ¬ (0 : Int) < (args.length : Int) := by omega
      clear hzero
      by_cases hn : n = 0
      · subst hn
        go_wp2_with fail
        refine (refName_one nm hnm _).mono ?_
        rintro e w4 ⟨rfl, he4⟩
        have WC4 := WC3.trans he4
        have z3 := Ext.cell he4 y3
        cases hnp : nameP nm
        · go_wp2_with fail
          go_ret
          exact retSz (b := false) (hlf.out.1.trans (by simp [headP, hnp])) no_true (fun _ => rfl) WC4
        · go_wp2_with fail
          go_loop [7, 8] (fun n i => n = .int .i64 1 ∧ i = .int .i64 0) (fun _ _ => 0)
          case atStart => exact ⟨rfl, rfl⟩
          case round =>
            obtain ⟨rfl, rfl⟩ := hrel
            go_wp2_with fail
            go_ret
            exact retSz (b := true) (hlf.out.1.trans (by simp [headP, hnp])) (fun _ => by rw [hlf.out.2]; rfl) (by simp) (WC4)
      · have bn : (n == 0) = false := by simpa using hn
        have bn' : (n != 0) = true := by simpa using hn
        go_wp2_with fail
        go_ret
        exact retSz (b := false) (hlf.out.1.trans (by simp [headP, hn])) no_true (fun _ => rfl) (WC3)
    have b1 : (op == 1) = false := by simpa using h1
    have b2 : (op == 2) = false := by simpa using h2
    have b3 : (op == 3) = false := by simpa using h3
    have hnd := Lib.hid (ok_node (d := d) (m := m) (op := op) (n := n) (nm := nm) (l := args) HP.out hm3)
    have hhd : headP op n nm = (decide (n = 0) && nm.toList.isEmpty) := by simp [headP, h1, h2, h3]
    have HH := Lib.hid hhd
    clear hhd h1 h2 h3 hzero
    by_cases hn : n = 0
    · subst hn
      by_cases he : nm.toList = []
      · have he2 : nm.toList.isEmpty = true := by simp [he]
        have hnd2 : Hid (okE (d + 1) m (.mk op 0 nm args) = okL d (m - 1) args) := by show _ = _; rw [hnd.out, HH.out]; simp [he]
        clear hnd HH
        go_wp2_with fail
        clear b1 b2 b3
        go_loopw [7, 8] (fun nn i wr => ∃ k : Nat, k ≤ args.length ∧ i = .int .i64 k ∧ (∃ q : Int, nn = .int .i64 q ∧ 1 ≤ q ∧ q ≤ m ∧ okL d (m - 1) args = okL d (m - q) (args.drop k) ∧ (nodesL args : Int) + 1 = q + (nodesL (args.drop k) : Int)) ∧
            wr.heap[w.heap.size]? = some (.cells #[.int .u8 op, .int .i64 0, .string nm, .slice a args.length cap] 53 (0, 0)) ∧ Ext w wr) (fun _ i _ => args.length - (intOf i).toNat)
        case atStart => exact ⟨0, Nat.zero_le _, rfl, ⟨1, rfl, by omega, by omega, rfl, by rw [List.drop_zero]; omega⟩, WX3, WC3⟩
        case round =>
          obtain ⟨k, hk, rfl, ⟨q, rfl, hq1, hq2, hok, hno⟩, RX, RC⟩ := hrel
          have HO := Lib.hid hok
          have HN := Lib.hid hno
          clear hok hno y0 y1 y2 y3 WX3 WC3
          have y3 := blk_cell RX 3
          simp only [List.getElem?_toArray, List.getElem?_cons_zero, List.getElem?_cons_succ] at y3
          by_cases hlt : k < args.length
          · have hx := List.getElem?_eq_getElem hlt
            have hix := HI.out _ (List.getElem_mem hlt)
            obtain ⟨b, o, v, rfl, _, hb, c0, c1, c2, c3, _, _, hxn, hvx⟩ := (hv.ext RC).get hx
            have ho1 := Lib.hid (okL_at (d := d) (m := m - q) hx)
            have hn1 := Lib.hid (nodesL_at hx)
            have q1 : (k : Int) < (args.length : Int) := by omega
            generalize args[k] = x at *
            have hcall := hix v wr (m - q) d hvx hxn (by omega) (by omega) (by omega)
            obtain ⟨a2, cap2, rfl, _⟩ := hvx.form
            have HC := Lib.hid hcall
            clear hcall hix hx hvx
            go_wp2_with fail
            refine HC.out.mono ?_
            rintro e w4 ⟨he4, C4⟩
            have C5 := RC.trans C4
            have X4 := Ext.heap C4 RX
            cases hb4 : okE d (m - q) x
            · rw [hb4] at he4
              have he5 : e = .returned (.int .i64 (-1)) := he4
              subst he5
              have hfin := Lib.hid (show okE (d + 1) m (.mk op 0 nm args) = false by rw [hnd2.out, HO.out, ho1.out, hb4]; rfl)
              go_wp2_with fail
              go_ret
              exact retSz hfin.out no_true (fun _ => rfl) C5
            · rw [hb4] at he4
              have he5 : e = .returned (.int .i64 (nodesE x : Int)) := he4
              subst he5
              have hle := (okE_iff.1 hb4).2
              have hO : Hid (okL d (m - 1) args = okL d (m - (q + nodesE x)) (args.drop (k + 1))) := by
                show _ = _
                rw [HO.out, ho1.out, hb4, show m - (q + (nodesE x : Int)) = m - q - nodesE x from by omega]; rfl
              have hN : Hid ((nodesL args : Int) + 1 = (q + nodesE x) + (nodesL (args.drop (k + 1)) : Int)) := by
                show _ = _
                rw [HN.out, hn1.out]; omega
              clear hb4
              have hnn : ¬ ((nodesE x : Int) < 0) := by omega
              go_wp2_with fail
              go_roundw
              case rel => exact ⟨k + 1, by omega, by go_num, ⟨q + nodesE x, by go_num, by omega, by omega, hO.out, hN.out⟩, X4, C5⟩
              case measure => simp [intOf]; omega
          · obtain rfl : k = args.length := by omega
            have hO : okL d (m - 1) args = true := by rw [HO.out, List.drop_length, okL_iff]; simp only [wfL, nodesL]; exact ⟨trivial, by omega⟩
            have hnod : q = (nodesE (.mk op 0 nm args) : Int) := by have := HN.out; rw [List.drop_length] at this; simp only [nodesE, nodesL] at this ⊢; omega
            have hfin := Lib.hid (hnd2.out.trans hO)
            have HD := Lib.hid hnod
            clear hO hnod
            go_wp2_with fail
            go_ret
            exact retSz (b := true) hfin.out (fun _ => HD.out) (by simp) RC
      · have he2 : nm.toList.isEmpty = false := by simp [he]
        have hnd2 : Hid (okE (d + 1) m (.mk op 0 nm args) = false) := by show _ = _; rw [hnd.out, HH.out]; simp [he]
        go_wp2_with fail
        go_ret
        exact retSz hnd2.out no_true (fun _ => rfl) WC3
    · have bn : (n == 0) = false := by simpa using hn
      have bn' : (n != 0) = true := by simpa using hn
      have hnd2 : Hid (okE (d + 1) m (.mk op n nm args) = false) := by show _ = _; rw [hnd.out, HH.out]; simp [hn]
      go_wp2_with fail
      go_ret
      exact retSz hnd2.out no_true (fun _ => rfl) WC3
  · have hp2 : (partsP op != (args.length : Int)) = true := by simpa using hp
    have hq := ok_odd (d := d) (m := m) (n := n) (nm := nm) hp
    have HQ := Lib.hid hq
    clear hq hp
    go_wp2_with fail
    go_ret
    exact retSz HQ.out no_true (fun _ => rfl) WC3
theorem nodesE_pos (x : Ex) : 1 ≤ nodesE x := by cases x; simp only [nodesE]; omega
set_option maxHeartbeats 1000000 in
/-- The document's Check. -/
theorem refCheck_any (x : Ex) (v : Value) (w : World) (hv : RdExV w 0 false x.args v) (hnm : x.name.size ≤ maxLen) :
    Calls Try.prog 86 #[.agg #[.int .u8 x.op, .int .i64 x.n, .string x.name, v]] w fun e w' => e = .returned (.bool (okE 32 200 x)) ∧ Ext w w' := by
  have hc := fun W (hE : Ext w W) => size_any x v W 200 32 (hv.ext hE) hnm (by omega) (by omega) (by omega)
  obtain ⟨a, cap, rfl, _⟩ := hv.form
  have hc' : ∀ W, Ext w W → Calls Try.prog 99 #[.agg #[.int .u8 x.op, .int .i64 x.n, .string x.name, .slice a x.args.length cap], .int .i64 32, .int .i64 200] W (RetSz W x 32 200) := hc
  have HC := Lib.hid hc'
  clear hc hc' hv
  have hE0 : Ext w (w.alloc (.cells #[.int .u8 x.op, .int .i64 x.n, .string x.name, .slice a x.args.length cap] 53)) := (Chg.refl _ _).alloc _
  have hpos := nodesE_pos x
  generalize hr : okE 32 200 x = r
  go_enter Try.func86, Try.ntmps86
  go_wp2_with fail
  refine (HC.out _ hE0).mono ?_
  rintro e w1 ⟨he, hC⟩
  rw [hr] at he
  have E1 := hE0.trans hC
  cases r
  · have he' : e = .returned (.int .i64 (-1)) := he
    subst he'
    go_wp2_with fail
    go_ret
    exact ⟨rfl, E1⟩
  · have he' : e = .returned (.int .i64 (nodesE x : Int)) := he
    subst he'
    have hp : 0 < nodesE x := by omega
    go_wp2_with fail
    go_ret
    exact ⟨by simp, E1⟩
end Go.Proofs.Ytjdficgejjkaoaa
