/- exprs.Check and the document's answer the same plain answer. -/
import Derived.Test.YtjdficgejjkaoaaMany
import Derived.RangeFuncNested
namespace Go.Proofs.Ytjdficgejjkaoaa
open Go.RowKit
set_option linter.unusedVariables false

mutual
/-- How many parts it has. -/
def nodesE : Ex → Nat
  | .mk _ _ _ l => 1 + nodesL l
def nodesL : List Ex → Nat
  | [] => 0
  | x :: r => nodesE x + nodesL r
end
/-- What stands beside the parts is fine. -/
def headP (op n : Int) (nm : ByteArray) : Bool :=
  if op = 1 then decide (0 ≤ n) && nm.toList.isEmpty else if op = 2 then (decide (n = 0) || decide (n = 1)) && nm.toList.isEmpty else if op = 3 then decide (n = 0) && nameP nm else decide (n = 0) && nm.toList.isEmpty
mutual
/-- It may be, so deep. -/
def wfE : Nat → Ex → Bool
  | 0, .mk _ _ _ _ => false
  | d + 1, .mk op n nm l => decide (partsP op = (l.length : Int)) && headP op n nm && wfL d l
def wfL : Nat → List Ex → Bool
  | _, [] => true
  | d, x :: r => wfE d x && wfL d r
end
/-- The plain answer: it may be, so deep, with so many parts. -/
def okE (d : Nat) (m : Int) (x : Ex) : Bool := wfE d x && decide ((nodesE x : Int) ≤ m)
def okL (d : Nat) (m : Int) (l : List Ex) : Bool := wfL d l && decide ((nodesL l : Int) ≤ m)
theorem okE_iff {d : Nat} {m : Int} {x : Ex} : okE d m x = true ↔ wfE d x = true ∧ (nodesE x : Int) ≤ m := by unfold okE; rw [Bool.and_eq_true, decide_eq_true_eq]
theorem okL_iff {d : Nat} {m : Int} {l : List Ex} : okL d m l = true ↔ wfL d l = true ∧ (nodesL l : Int) ≤ m := by unfold okL; rw [Bool.and_eq_true, decide_eq_true_eq]
theorem okL_at {d : Nat} {m : Int} {l : List Ex} {k : Nat} {x : Ex} (h : l[k]? = some x) : okL d m (l.drop k) = (okE d m x && okL d (m - nodesE x) (l.drop (k + 1))) := by
  obtain ⟨hk, rfl⟩ := List.getElem?_eq_some_iff.1 h
  rw [List.drop_eq_getElem_cons hk, Bool.eq_iff_iff, Bool.and_eq_true, okL_iff, okE_iff, okL_iff]
  simp only [wfL, nodesL, Bool.and_eq_true]
  constructor
  · rintro ⟨⟨h1, h2⟩, h3⟩; exact ⟨⟨h1, by omega⟩, h2, by omega⟩
  · rintro ⟨⟨h1, h2⟩, h3, h4⟩; exact ⟨⟨h1, h3⟩, by omega⟩
theorem wfE_zero {d : Nat} {x : Ex} (h : d = 0) : wfE d x = false := by subst h; cases x; simp [wfE]
theorem ok_step {d : Nat} {m op n : Int} {nm : ByteArray} {l : List Ex} : okE (d + 1) m (.mk op n nm l) = (decide (partsP op = (l.length : Int)) && headP op n nm && okL d (m - 1) l && decide (1 ≤ m)) := by
  rw [Bool.eq_iff_iff, okE_iff, Bool.and_eq_true, Bool.and_eq_true, Bool.and_eq_true, okL_iff]
  simp only [wfE, nodesE, Bool.and_eq_true, decide_eq_true_eq]
  constructor
  · rintro ⟨⟨⟨h1, h2⟩, h3⟩, h4⟩; exact ⟨⟨⟨h1, h2⟩, h3, by omega⟩, by omega⟩
  · rintro ⟨⟨⟨h1, h2⟩, h3, h4⟩, h5⟩; exact ⟨⟨⟨h1, h2⟩, h3⟩, by omega⟩
theorem ok_leaf {d : Nat} {m op n : Int} {nm : ByteArray} {l : List Ex} (hop : op = 1 ∨ op = 2 ∨ op = 3) (hp : partsP op = (l.length : Int)) (hm : 1 ≤ m) : okE (d + 1) m (.mk op n nm l) = headP op n nm ∧ nodesE (.mk op n nm l) = 1 := by
  have hz : partsP op = 0 := by simp [partsP, hop]
  have hl : l = [] := List.length_eq_zero_iff.1 (by omega)
  subst hl
  have e : okL d (m - 1) [] = true := by rw [okL_iff]; simp only [wfL, nodesL]; exact ⟨trivial, by omega⟩
  rw [ok_step, hp, e]
  simp [nodesE, nodesL, hm]
theorem ok_node {d : Nat} {m op n : Int} {nm : ByteArray} {l : List Ex} (hp : partsP op = (l.length : Int)) (hm : 1 ≤ m) : okE (d + 1) m (.mk op n nm l) = (headP op n nm && okL d (m - 1) l) := by
  rw [ok_step, hp]
  simp [hm]
theorem ok_odd {d : Nat} {m op n : Int} {nm : ByteArray} {l : List Ex} (hp : ¬ partsP op = (l.length : Int)) : okE (d + 1) m (.mk op n nm l) = false := by
  rw [ok_step]
  simp [hp]
theorem nodesL_at {l : List Ex} {k : Nat} {x : Ex} (h : l[k]? = some x) : nodesL (l.drop k) = nodesE x + nodesL (l.drop (k + 1)) := by
  obtain ⟨hk, rfl⟩ := List.getElem?_eq_some_iff.1 h
  rw [List.drop_eq_getElem_cons hk]
  simp only [nodesL]
/-- How check ends. -/
def RetChk (w : World) (B : Nat) (x : Ex) (d : Nat) (m : Int) (e : Ending) (w' : World) : Prop := ∃ m' : Int, e = .returned (.bool (okE d m x)) ∧ Boxed w' B 3 (.int .i64 m') ∧ (okE d m x = true → m' = m - nodesE x) ∧ Chg (fun q => q = B) w w'
theorem retChk {w w' : World} {B : Nat} {x : Ex} {d : Nat} {m m' : Int} {b : Bool} (h : okE d m x = b) (hb : Boxed w' B 3 (.int .i64 m')) (hm : b = true → m' = m - nodesE x) (hc : Chg (fun q => q = B) w w') : RetChk w B x d m (.returned (.bool b)) w' := by
  subst h; exact ⟨m', rfl, hb, hm, hc⟩
theorem no_true {P : Prop} : false = true → P := fun h => by cases h
/-- check's contract at x. -/
def EChk (x : Ex) : Prop := ∀ (v : Value) (w0 w : World) (B : Nat) (m : Int) (d : Nat), RdExV w0 0 false x.args v → x.name.size ≤ maxLen → Ext w0 w → w0.heap.size ≤ B → Boxed w B 3 (.int .i64 m) → 0 ≤ m → m ≤ 200 → d ≤ 32 →
  Calls Try.prog 91 #[.agg #[.int .u8 x.op, .int .i64 x.n, .string x.name, v], .pointer (some ⟨B, 0, none⟩), .int .i64 d] w (RetChk w B x d m)
set_option maxRecDepth 100000 in
set_option maxHeartbeats 4000000 in
theorem check_any : ∀ x, EChk x := by
  refine Ex.ind fun op n nm args ih => ?_
  intro v w0 w B m d hv hnm hE hB hbox hm0 hm1 hd
  simp only [Ex.op, Ex.n, Ex.name, Ex.args] at *
  obtain ⟨a, cap, rfl, hrest⟩ := hv
  have hv : RdExV w0 0 false args (.slice a args.length cap) := ⟨a, cap, rfl, hrest⟩
  clear hrest
  have hBw := hbox.lt
  go_enter Try.func91, Try.ntmps91
  have y := (hbox.alloc (.cells #[.int .u8 op, .int .i64 n, .string nm, .slice a args.length cap] 53)).cell
  have g := (hbox.alloc (.cells #[.int .u8 op, .int .i64 n, .string nm, .slice a args.length cap] 53)).frozen
  go_wp2_with fail
  have WB : Boxed ((w.setCell ⟨B, 0, none⟩ (.int .i64 (m - 1))).alloc (.cells #[.int .u8 op, .int .i64 n, .string nm, .slice a args.length cap] 53)) B 3 (.int .i64 (m - 1)) := (Boxed.set _ hbox).alloc _
  have hsz : (w.setCell ⟨B, 0, none⟩ (.int .i64 (m - 1))).heap.size = w.heap.size := by simp [World.setCell]
  have WX : ((w.setCell ⟨B, 0, none⟩ (.int .i64 (m - 1))).alloc (.cells #[.int .u8 op, .int .i64 n, .string nm, .slice a args.length cap] 53)).heap[w.heap.size]? = some (.cells #[.int .u8 op, .int .i64 n, .string nm, .slice a args.length cap] 53 (0, 0)) := by
    have := heap_alloc_new (w.setCell ⟨B, 0, none⟩ (.int .i64 (m - 1))) (.cells #[.int .u8 op, .int .i64 n, .string nm, .slice a args.length cap] 53)
    rw [hsz] at this
    exact this
  have WC : Chg (fun q => q = B) w ((w.setCell ⟨B, 0, none⟩ (.int .i64 (m - 1))).alloc (.cells #[.int .u8 op, .int .i64 n, .string nm, .slice a args.length cap] 53)) := ((Chg.refl (fun q => q = B) w).setCell ⟨B, 0, none⟩ (.int .i64 (m - 1)) (.inl rfl)).alloc _
  generalize ((w.setCell ⟨B, 0, none⟩ (.int .i64 (m - 1))).alloc (.cells #[.int .u8 op, .int .i64 n, .string nm, .slice a args.length cap] 53)) = W at *
  clear y g hsz
  have y := WB.cell
  have x0 := blk_cell WX 0
  have x1 := blk_cell WX 1
  have x2 := blk_cell WX 2
  have x3 := blk_cell WX 3
  simp only [List.getElem?_toArray, List.getElem?_cons_zero, List.getElem?_cons_succ] at x0 x1 x2 x3
  by_cases hm : m = 0
  · subst hm
    have hq : okE d 0 (.mk op n nm args) = false := by
      rw [Bool.eq_false_iff, ne_eq, okE_iff]
      simp only [nodesE]
      omega
    go_region
    go_wp2_with fail
    go_ret
    exact retChk hq WB no_true WC.drew
  have hm2 : ¬ (m - 1 < 0) := by omega
  cases d with
  | zero =>
    have hq : okE 0 m (.mk op n nm args) = false := by simp [okE, wfE]
    go_region
    go_wp2_with fail
    go_ret
    exact retChk hq WB no_true WC.drew
  | succ d =>
    have hd2 : ¬ ((d : Int) + 1 < 1) := by omega
    have hm3 : 1 ≤ m := by omega
    have dB := (World.cell?_drew (w := W) (a := ⟨B, 0, none⟩)).trans y
    have d0 := (World.cell?_drew (w := W) (a := ⟨w.heap.size, 0, none⟩)).trans x0
    have d3 := (World.cell?_drew (w := W) (a := ⟨w.heap.size, 3, none⟩)).trans x3
    have hstep := ok_step (d := d) (m := m) (op := op) (n := n) (nm := nm) (l := args)
    have HS := Lib.hid hstep
    have HI := Lib.hid ih
    clear ih hstep
    go_region_held3 (fun X => X.cell? ⟨B, 0, none⟩ = some (.int .i64 (m - 1)) ∧ X.cell? ⟨w.heap.size, 0, none⟩ = some (.int .u8 op) ∧ X.cell? ⟨w.heap.size, 3, none⟩ = some (.slice a args.length cap))
      (first | (with_reducible exact ⟨dB, d0, d3⟩) | (with_reducible exact ⟨Ext.cell he3 dB, Ext.cell he3 d0, Ext.cell he3 d3⟩))
      (first
        | (go_at_call 102; refine (parts_one op _).mono ?_; rintro e w3 ⟨rfl, he3⟩))
    have WB3 : Boxed w3 B 3 (.int .i64 (m - 1)) := Ext.heap he3 WB
    have WX3 := Ext.heap he3 (show W.drew.heap[w.heap.size]? = _ from WX)
    have C3 : Chg (fun q => q = B) w w3 := WC.drew.trans (he3.mono (fun _ _ h => h.elim))
    clear dB d0 d3 he3 WB WX WC x0 x1 x2 x3 y
    have x0 := blk_cell WX3 0
    have x1 := blk_cell WX3 1
    have x2 := blk_cell WX3 2
    have x3 := blk_cell WX3 3
    simp only [List.getElem?_toArray, List.getElem?_cons_zero, List.getElem?_cons_succ] at x0 x1 x2 x3
    by_cases hp : partsP op = (args.length : Int)
    · have hp2 : (partsP op != (args.length : Int)) = false := by simpa using hp
      have HP := Lib.hid hp
      clear hp
      rw [hp2]
      by_cases h1 : op = 1
      · subst h1
        have hlf := Lib.hid (ok_leaf (d := d) (m := m) (n := n) (nm := nm) (l := args) (.inl rfl) HP.out hm3)
        by_cases hn : 0 ≤ n
        · go_wp2_with fail
          go_ret
          exact retChk (hlf.out.1.trans (by simp [headP, hn])) WB3 (fun _ => by rw [hlf.out.2]; omega) C3
        · have HNN := Lib.hid hn
          go_wp2_with fail
          go_ret
          exact retChk (hlf.out.1.trans (by simp [headP]; intro h; exact absurd h (by have := HNN.out; omega))) WB3 (fun _ => by rw [hlf.out.2]; omega) C3
      by_cases h2 : op = 2
      · subst h2
        have hlf := Lib.hid (ok_leaf (d := d) (m := m) (n := n) (nm := nm) (l := args) (.inr (.inl rfl)) HP.out hm3)
        by_cases hn : n = 0
        · subst hn
          go_wp2_with fail
          go_ret
          exact retChk (hlf.out.1.trans (by simp [headP])) WB3 (fun _ => by rw [hlf.out.2]; omega) C3
        · have bn : (n == 0) = false := by simpa using hn
          by_cases hn1 : n = 1
          · subst hn1
            go_wp2_with fail
            go_ret
            exact retChk (hlf.out.1.trans (by simp [headP])) WB3 (fun _ => by rw [hlf.out.2]; omega) C3
          · have bn1 : (n == 1) = false := by simpa using hn1
            go_wp2_with fail
            go_ret
            exact retChk (hlf.out.1.trans (by simp [headP, hn, hn1])) WB3 (fun _ => by rw [hlf.out.2]; omega) C3
      by_cases h3 : op = 3
      · subst h3
        have hlf := Lib.hid (ok_leaf (d := d) (m := m) (n := n) (nm := nm) (l := args) (.inr (.inr rfl)) HP.out hm3)
        by_cases hn : n = 0
        · subst hn
          go_wp2_with fail
          refine (name_one nm hnm _).mono ?_
          rintro e w4 ⟨rfl, he4⟩
          go_wp2_with fail
          go_ret
          exact retChk (hlf.out.1.trans (by simp [headP])) (Ext.heap he4 WB3) (fun _ => by rw [hlf.out.2]; omega) (C3.trans (he4.mono (fun _ _ h => h.elim)))
        · have bn : (n == 0) = false := by simpa using hn
          go_wp2_with fail
          go_ret
          exact retChk (hlf.out.1.trans (by simp [headP, hn])) WB3 (fun _ => by rw [hlf.out.2]; omega) C3
      have b1 : (op == 1) = false := by simpa using h1
      have b2 : (op == 2) = false := by simpa using h2
      have b3 : (op == 3) = false := by simpa using h3
      have hnd := Lib.hid (ok_node (d := d) (m := m) (op := op) (n := n) (nm := nm) (l := args) HP.out hm3)
      have hhd : headP op n nm = (decide (n = 0) && nm.toList.isEmpty) := by simp [headP, h1, h2, h3]
      have HH := Lib.hid hhd
      clear hhd h1 h2 h3
      have hlen : args.length ≤ 9000000000000000000 := by obtain ⟨_, _, _, hf, _⟩ := hv; unfold fitsR at hf; omega
      go_wp2_with fail
      clear x0 x1 x2 x3 hp2 b1 b2 b3
      have hBne : B ≠ w.heap.size := by omega
      go_loopw [71] (fun i wr => ∃ (k : Nat) (mk : Int), k ≤ args.length ∧ i = .int .i64 k ∧ Boxed wr B 3 (.int .i64 mk) ∧ okL d (m - 1) args = okL d mk (args.drop k) ∧ m - 1 - (nodesL args : Int) = mk - (nodesL (args.drop k) : Int) ∧ 0 ≤ mk ∧ mk ≤ 200 ∧
          wr.heap[w.heap.size]? = some (.cells #[.int .u8 op, .int .i64 n, .string nm, .slice a args.length cap] 53 (0, 0)) ∧ Chg (fun q => q = B) w wr) (fun i _ => args.length - (intOf i).toNat)
      case atStart => exact ⟨0, m - 1, Nat.zero_le _, rfl, WB3, rfl, rfl, by omega, by omega, WX3, C3⟩
      case round =>
        obtain ⟨k, mk, hk, rfl, RB, hok, hno, hk0, hk1, RX, RC⟩ := hrel
        have HO := Lib.hid hok
        have HN := Lib.hid hno
        clear hok hno
        by_cases hlt : k < args.length
        · have hx := List.getElem?_eq_getElem hlt
          have hix := HI.out _ (List.getElem_mem hlt)
          have E1 := Ext.then hE RC (fun b hb => by omega)
          obtain ⟨b, o, v, rfl, _, hb, z0, z1, z2, z3, _, _, hxn, hvx⟩ := hv.get hx
          have c0 := Ext.cell E1 z0
          have c1 := Ext.cell E1 z1
          have c2 := Ext.cell E1 z2
          have c3 := Ext.cell E1 z3
          clear z0 z1 z2 z3
          have ho1 := Lib.hid (okL_at (d := d) (m := mk) hx)
          have hn1 := Lib.hid (nodesL_at hx)
          have q1 : (k : Int) < (args.length : Int) := by omega
          generalize args[k] = x at *
          have hcall := fun W' (hE' : Ext w0 W') (hb' : Boxed W' B 3 (.int .i64 mk)) => hix v w0 W' B mk d hvx hxn hE' hB hb' hk0 hk1 (by omega)
          obtain ⟨a2, cap2, rfl, _⟩ := hvx.form
          have HC := Lib.hid hcall
          clear hcall hix hx hvx
          have HX := Lib.hid RX
          clear RX
          go_wp2_with fail
          refine (HC.out _ (E1.alloc _) (RB.alloc _)).mono ?_
          rintro e w4 ⟨m', rfl, R4, hm4, C4⟩
          have C5 : Chg (fun q => q = B) w w4 := (RC.alloc _).trans C4
          have X4 : w4.heap[w.heap.size]? = some (.cells #[.int .u8 op, .int .i64 n, .string nm, .slice (some ⟨b, o, none⟩) args.length cap] 53 (0, 0)) := C4.heap (Ext.heap ((Chg.refl _ _).alloc _) HX.out) (fun h => hBne h.symm)
          cases hb4 : okE d mk x
          · have hfin := Lib.hid (show okE (d + 1) m (.mk op n nm args) = false by rw [hnd.out, HO.out, ho1.out, hb4]; simp)
            go_wp2_with fail
            go_ret
            exact retChk hfin.out R4 no_true C5
          · have hm5 := hm4 hb4
            have hle := (okE_iff.1 hb4).2
            have hO : Hid (okL d (m - 1) args = okL d m' (args.drop (k + 1))) := by
              show _ = _
              rw [HO.out, ho1.out, hb4, hm5]; rfl
            have hN : Hid (m - 1 - (nodesL args : Int) = m' - (nodesL (args.drop (k + 1)) : Int)) := by
              show _ = _
              rw [HN.out, hn1.out, hm5]; omega
            clear hm4 hb4
            go_wp2_with fail
            go_roundw
            case rel =>
              exact ⟨k + 1, m', by omega, by go_num, R4, hO.out, hN.out, by omega, by omega, X4, C5⟩
            case measure => simp [intOf]; omega
        · obtain rfl : k = args.length := by omega
          have x1 := blk_cell RX 1
          have x2 := blk_cell RX 2
          simp only [List.getElem?_toArray, List.getElem?_cons_zero, List.getElem?_cons_succ] at x1 x2
          have hO : okL d (m - 1) args = true := by rw [HO.out, List.drop_length, okL_iff]; simp only [wfL, nodesL]; exact ⟨trivial, by omega⟩
          have hN : m - 1 - (nodesL args : Int) = mk := by rw [HN.out, List.drop_length]; simp only [nodesL]; omega
          have hfin : okE (d + 1) m (.mk op n nm args) = (decide (n = 0) && nm.toList.isEmpty) := by rw [hnd.out, hO, HH.out]; simp
          have hnod : mk = m - (nodesE (.mk op n nm args) : Int) := by simp only [nodesE]; omega
          have HF := Lib.hid hfin
          have HD := Lib.hid hnod
          clear hO hN hfin hnod RX
          by_cases hn : n = 0
          · subst hn
            go_wp2_with fail
            go_ret
            exact retChk (HF.out.trans (by simp)) RB (fun _ => HD.out) RC
          · have bn : (n == 0) = false := by simpa using hn
            have HNN := Lib.hid hn
            go_wp2_with fail
            go_ret
            exact retChk (HF.out.trans (by simp [HNN.out])) RB (fun _ => HD.out) RC
    · have hp2 : (partsP op != (args.length : Int)) = true := by simpa using hp
      have hq := ok_odd (d := d) (m := m) (n := n) (nm := nm) hp
      have HQ := Lib.hid hq
      clear hq hp
      go_wp2_with fail
      go_ret
      exact retChk HQ.out WB3 no_true C3
end Go.Proofs.Ytjdficgejjkaoaa
