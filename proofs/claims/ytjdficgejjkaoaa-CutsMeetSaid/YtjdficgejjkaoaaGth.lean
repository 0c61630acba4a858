/- What is asked for: the plain answer; the document's walk. -/
import Derived.Test.YtjdficgejjkaoaaRefSz
import Derived.Maps.AppendAt
namespace Go.Proofs.Ytjdficgejjkaoaa
open Go.RowKit
set_option linter.unusedVariables false

/-- A reference: a name, how many instants ago. -/
abbrev Rf := ByteArray × Int
def rfC (r : Rf) : List Value := [.string r.1, .int .i64 r.2]
theorem rfC_len (r : Rf) : (rfC r).length = 2 := rfl
def stepR (l : List Rf) (op : Int) (nm : ByteArray) (ago : Int) : List Rf := if op = 3 ∧ (l.any fun r => decide (r = (nm, ago))) = false then l ++ [(nm, ago)] else l
def agoP (op ago : Int) : Int := if op = 19 then wrap64 (ago + 1) else ago
mutual
/-- What is asked for, behind others, each once. -/
def gthE : List Rf → Int → Ex → List Rf
  | l, ago, .mk op _ nm args => gthL (stepR l op nm ago) (agoP op ago) args
def gthL : List Rf → Int → List Ex → List Rf
  | l, _, [] => l
  | l, ago, x :: r => gthL (gthE l ago x) ago r
end
theorem stepR_le (l : List Rf) (op : Int) (nm : ByteArray) (ago : Int) : (stepR l op nm ago).length ≤ l.length + 1 := by
  unfold stepR
  split <;> simp
mutual
theorem gthE_le : ∀ (x : Ex) (l : List Rf) (ago : Int), (gthE l ago x).length ≤ l.length + nodesE x
  | .mk op n nm args, l, ago => by
    simp only [gthE, nodesE]
    have := gthL_le args (stepR l op nm ago) (agoP op ago)
    have := stepR_le l op nm ago
    omega
theorem gthL_le : ∀ (xs : List Ex) (l : List Rf) (ago : Int), (gthL l ago xs).length ≤ l.length + nodesL xs
  | [], l, ago => by simp only [gthL, nodesL]; omega
  | x :: r, l, ago => by
    simp only [gthL, nodesL]
    have := gthE_le x l ago
    have := gthL_le r (gthE l ago x) ago
    omega
end
/-- A list of references of one's own, in memory. -/
def RfV (w : World) (base : Nat) (l : List Rf) (v : Value) : Prop := w.ownsRow base 29 2 v l.length (l.flatMap rfC)
theorem RfV.form {w : World} {base : Nat} {l : List Rf} {v : Value} (h : RfV w base l v) : ∃ a cap, v = .slice a l.length cap := by
  rcases h.2 with ⟨h0, h1⟩ | ⟨g, cap, cur, h1, _⟩
  · exact ⟨none, 0, by rw [h0, h1]⟩
  · exact ⟨_, _, h1⟩
theorem flat2_at {l : List Rf} {i : Nat} {r : Rf} (h : l[i]? = some r) {j : Nat} (hj : j < 2) : (l.flatMap rfC)[i * 2 + j]? = (rfC r)[j]? := by
  induction l generalizing i with
  | nil => simp at h
  | cons y t ih =>
    cases i with
    | zero =>
      simp only [List.getElem?_cons_zero, Option.some.injEq] at h
      subst h
      rw [List.flatMap_cons, List.getElem?_append_left (by simp [rfC]; omega)]
      simp
    | succ i =>
      simp only [List.getElem?_cons_succ] at h
      rw [List.flatMap_cons, List.getElem?_append_right (by simp [rfC]; omega), show (i + 1) * 2 + j - (rfC y).length = i * 2 + j from by simp [rfC]; omega]
      exact ih h
theorem RfV.get {w : World} {base n : Nat} {l : List Rf} {a : Option Addr} {cap : Nat} (h : RfV w base l (.slice a n cap)) {i : Nat} {r : Rf} (hr : l[i]? = some r) :
    ∃ g, a = some ⟨g, 0, none⟩ ∧ w.cell? ⟨g, i * 2, none⟩ = some (.string r.1) ∧ w.cell? ⟨g, i * 2 + 1, none⟩ = some (.int .i64 r.2) := by
  have hi : i < l.length := (List.getElem?_eq_some_iff.1 hr).1
  have h0 := h
  rcases h.2 with ⟨h0, h1⟩ | ⟨g, c', cur, h1, _⟩
  · omega
  · simp only [Value.slice.injEq] at h1
    obtain ⟨rfl, rfl, rfl⟩ := h1
    have c0 := World.ownsRow.cellAt h (i * 2) (by omega)
    have c1 := World.ownsRow.cellAt h (i * 2 + 1) (by omega)
    rw [show i * 2 = i * 2 + 0 from rfl, flat2_at hr (by omega)] at c0
    rw [flat2_at hr (by omega)] at c1
    exact ⟨g, rfl, c0, c1⟩
theorem RfV.chg {w w' : World} {base : Nat} {l : List Rf} {v : Value} (h : RfV w base l v) {S : Nat → Prop} (hc : Chg S w w') (hS : ∀ g, v.ownBlock = some g → ¬ S g) : RfV w' base l v := by
  refine ⟨h.1, ?_⟩
  rcases h.2 with ⟨h0, h1⟩ | ⟨g, cap, cur, h1, h2, h3, h4⟩
  · exact .inl ⟨h0, h1⟩
  · exact .inr ⟨g, cap, cur, h1, h2, (hc.block g (lt_of_block h3) (hS g (by rw [h1]; rfl))).trans h3, h4⟩
theorem RfV.nil (w : World) (base : Nat) : RfV w base [] (.slice none 0 0) := World.ownsRow_nil _ _ _ _
theorem chg_more {w w1 w2 : World} {r : Option Nat} {S : Nat → Prop} (h : Chg (fun q => r = some q) w w1) (k : Chg S w1 w2) (hs : ∀ g, S g → r = some g ∨ w.heap.size ≤ g) : Chg (fun q => r = some q) w w2 :=
  ⟨k.os.trans h.os, k.tape.trans h.tape, k.output.trans h.output, Nat.le_trans h.size k.size, fun q hq hn => by
    have := h.size
    exact (k.block q (by omega) (fun hs' => by rcases hs q hs' with h | h; exact hn h; omega)).trans (h.block q hq hn)⟩
theorem infoRf : (Try.prog.info? 29).map (fun i => (i.zero, i.size, i.bytes)) = some (some (.agg #[.string ByteArray.empty, .int .i64 0]), 2, 24) := by kernel_rfl
def RetGth (w : World) (base : Nat) (v : Value) (l : List Rf) (e : Ending) (w' : World) : Prop := ∃ v', e = .returned v' ∧ RfV w' base l v' ∧ Chg (fun q => v.ownBlock = some q) w w' ∧ ∀ g, v'.ownBlock = some g → v.ownBlock = some g ∨ w.heap.size ≤ g
/-- gather's contract at x. -/
def EGth (x : Ex) : Prop := ∀ (xv : Value) (w0 w : World) (base : Nat) (l : List Rf) (v : Value) (ago : Int), RdExV w0 0 false x.args xv → Ext w0 w → w0.heap.size ≤ base → base ≤ w.heap.size → RfV w base l v → l.length + nodesE x ≤ 100000 →
  Calls Try.prog 65 #[v, .agg #[.int .u8 x.op, .int .i64 x.n, .string x.name, xv], .int .i64 ago] w (RetGth w base v (gthE l ago x))
set_option maxRecDepth 100000 in
set_option maxHeartbeats 4000000 in
theorem gather_any : ∀ x, EGth x := by
  refine Ex.ind fun op n nm args ih => ?_
  intro xv w0 w base l v ago hv0 hE hbw hb2 hV hlen
  simp only [Ex.op, Ex.n, Ex.name, Ex.args] at *
  simp only [nodesE] at hlen
  obtain ⟨a, cap, rfl, hrest⟩ := hv0
  have hv0 : RdExV w0 0 false args (.slice a args.length cap) := ⟨a, cap, rfl, hrest⟩
  have hlen2 : args.length ≤ 9000000000000000000 := by have := hrest.1; unfold fitsR at this; omega
  clear hrest
  have HI := Lib.hid ih
  clear ih
  have hvlt := hV.lt
  have hsl := stepR_le l op nm ago
  have HL : Hid ((stepR l op nm ago).length + nodesL args ≤ 100000) := by show _ ≤ _; omega
  obtain ⟨va, vc, rfl⟩ := hV.form
  generalize hv' : Value.slice va l.length vc = v at *
  have WX := heap_alloc_new w (.cells #[.int .u8 op, .int .i64 n, .string nm, .slice a args.length cap] 53)
  have WC : Chg (fun q => v.ownBlock = some q) w (w.alloc (.cells #[.int .u8 op, .int .i64 n, .string nm, .slice a args.length cap] 53)) := (Chg.refl _ _).alloc _
  have hV1 := hV.chg (w' := w.alloc (.cells #[.int .u8 op, .int .i64 n, .string nm, .slice a args.length cap] 53)) ((Chg.refl (fun _ => False) _).alloc _) (fun _ _ h => h)
  have hG0 : ∀ g, v.ownBlock = some g → v.ownBlock = some g ∨ w.heap.size < g := fun g h => .inl h
  by_cases h19 : op = 19
  · have hst : stepR l op nm ago = l := by subst h19; rfl
    have hag : agoP op ago = wrap64 (ago + 1) := by subst h19; rfl
    have HV : Hid (RfV (w.alloc (.cells #[.int .u8 op, .int .i64 n, .string nm, .slice a args.length cap] 53)) base (stepR l op nm ago) v) := by show RfV _ _ _ _; rw [hst]; exact hV1
    have HA := Lib.hid hag
    have HX := Lib.hid WX
    have HC := Lib.hid WC
    have HG := Lib.hid hG0
    clear hst hag WX WC hG0 hV1
    have b3 : (op == 3) = false := by subst h19; rfl
    have b19 : (op == 19) = true := by subst h19; rfl
    clear h19
    go_enter Try.func65, Try.ntmps65
    go_wp2_with fail
    generalize (w.alloc (.cells #[.int .u8 op, .int .i64 n, .string nm, .slice a args.length cap] 53)) = W at *
    clear b3 b19
    go_loopw [0, 10] (fun vv i wr => ∃ (k : Nat) (lk : List Rf), k ≤ args.length ∧ i = .int .i64 k ∧ RfV wr base lk vv ∧ gthL (stepR l op nm ago) (agoP op ago) args = gthL lk (agoP op ago) (args.drop k) ∧ lk.length + nodesL (args.drop k) ≤ 100000 ∧
        wr.heap[w.heap.size]? = some (.cells #[.int .u8 op, .int .i64 n, .string nm, .slice a args.length cap] 53 (0, 0)) ∧ Chg (fun q => v.ownBlock = some q) w wr ∧ (∀ g, vv.ownBlock = some g → v.ownBlock = some g ∨ w.heap.size < g)) (fun _ i _ => args.length - (intOf i).toNat)
    case atStart => exact ⟨0, _, Nat.zero_le _, rfl, HV.out, rfl, by simpa using HL.out, HX.out, HC.out, HG.out⟩
    case round =>
      obtain ⟨k, lk, hk, rfl, rV, hgl, hll, rX, rC, rG⟩ := hrel
      have HGL := Lib.hid hgl
      clear hgl
      have E1 := Ext.then hE rC (fun b hb => by have := (hvlt b hb).1; omega)
      obtain ⟨av, cv, rfl⟩ := rV.form
      have x3 := blk_cell rX 3
      simp only [List.getElem?_toArray, List.getElem?_cons_zero, List.getElem?_cons_succ] at x3
      by_cases hlt : k < args.length
      · have hx := List.getElem?_eq_getElem hlt
        have hix := HI.out _ (List.getElem_mem hlt)
        obtain ⟨b, o, v0, rfl, _, hb, z0, z1, z2, z3, _, _, _, hvx⟩ := hv0.get hx
        have c0 := Ext.cell E1 z0
        have c1 := Ext.cell E1 z1
        have c2 := Ext.cell E1 z2
        have c3 := Ext.cell E1 z3
        clear z0 z1 z2 z3
        have hn1 := nodesL_at hx
        have hg1 : gthL lk (agoP op ago) (args.drop k) = gthL (gthE lk (agoP op ago) args[k]) (agoP op ago) (args.drop (k + 1)) := by rw [List.drop_eq_getElem_cons hlt]; simp only [gthL]
        have q1 : (k : Int) < (args.length : Int) := by omega
        generalize args[k] = x at *
        have hle := gthE_le x lk (agoP op ago)
        obtain ⟨a2, cap2, rfl, _⟩ := hvx.form
        have hcall : ∀ a1 : Int, agoP op ago = a1 → Calls Try.prog 65 #[.slice av lk.length cv, .agg #[.int .u8 x.op, .int .i64 x.n, .string x.name, .slice a2 x.args.length cap2], .int .i64 a1] wr (RetGth wr base (.slice av lk.length cv) (gthE lk (agoP op ago) x)) := by
          rintro _ rfl
          exact hix _ w0 wr base lk _ (agoP op ago) hvx E1 hbw (by have := rC.size; omega) rV (by omega)
        have HCa := Lib.hid hcall
        have HG1 := Lib.hid hg1
        have rX2 := Lib.hid rX
        have hsz := rC.size
        have hXl := lt_of_block rX
        clear hcall hix hx hvx hg1 rX
        go_wp2_with fail
        refine (HCa.out _ HA.out).mono ?_
        rintro e w4 ⟨v4, rfl, V4, C4, G4⟩
        obtain ⟨av4, cv4, rfl⟩ := V4.form
        have C5 : Chg (fun q => v.ownBlock = some q) w w4 := chg_more rC C4 (fun g hg => (rG g hg).imp id (fun h => by omega))
        have X4 := C4.heap rX2.out (fun h => by rcases rG _ h with h | h; exact absurd (hvlt _ h).2 (by omega); omega)
        have G5 : ∀ g, (Value.slice av4 (gthE lk (agoP op ago) x).length cv4).ownBlock = some g → v.ownBlock = some g ∨ w.heap.size < g := fun g hg => by
          rcases G4 g hg with h | h
          · exact rG g h
          · exact .inr (by omega)
        have hG := Lib.hid (HGL.out.trans HG1.out)
        go_wp2_with fail
        go_roundw
        case rel => exact ⟨k + 1, _, by omega, by go_num, V4, hG.out, by omega, X4, C5, G5⟩
        case measure => simp [intOf]; omega
      · obtain rfl : k = args.length := by omega
        have hG : gthE l ago (.mk op n nm args) = lk := by
          simp only [gthE]
          rw [HGL.out, List.drop_length]
          simp only [gthL]
        have HGG := Lib.hid hG
        clear hG
        go_wp2_with fail
        go_ret
        exact ⟨_, rfl, by rw [HGG.out]; exact rV, rC, fun g hg => (rG g hg).imp id (fun h => by omega)⟩
  have b19 : (op == 19) = false := by simpa using h19
  have hag : agoP op ago = ago := by simp [agoP, h19]
  have HA := Lib.hid hag
  have HX := Lib.hid WX
  clear hag
  by_cases h3 : op = 3
  · have b3 : (op == 3) = true := by simpa using h3
    have hst : stepR l op nm ago = if (l.any fun r => decide (r = (nm, ago))) = false then l ++ [(nm, ago)] else l := by
      unfold stepR
      by_cases hX : (l.any fun r => decide (r = (nm, ago))) = false
      · rw [if_pos ⟨h3, hX⟩, if_pos hX]
      · rw [if_neg (fun h => hX h.2), if_neg hX]
    have HS := Lib.hid hst
    clear h3 h19 hst
    subst hv'
    have WR := heap_alloc_new (w.alloc (.cells #[.int .u8 op, .int .i64 n, .string nm, .slice a args.length cap] 53)) (.cells #[.string nm, .int .i64 ago] 29)
    rw [World.size_alloc] at WR
    have WX2 : ((w.alloc (.cells #[.int .u8 op, .int .i64 n, .string nm, .slice a args.length cap] 53)).alloc (.cells #[.string nm, .int .i64 ago] 29)).heap[w.heap.size]? = some (.cells #[.int .u8 op, .int .i64 n, .string nm, .slice a args.length cap] 53 (0, 0)) := Ext.heap ((Chg.refl _ _).alloc _) WX
    have WC2 : Chg (fun q => (Value.slice va l.length vc).ownBlock = some q) w ((w.alloc (.cells #[.int .u8 op, .int .i64 n, .string nm, .slice a args.length cap] 53)).alloc (.cells #[.string nm, .int .i64 ago] 29)) := WC.alloc _
    have hV2 := hV1.chg (w' := (w.alloc (.cells #[.int .u8 op, .int .i64 n, .string nm, .slice a args.length cap] 53)).alloc (.cells #[.string nm, .int .i64 ago] 29)) ((Chg.refl (fun _ => False) _).alloc _) (fun _ _ h => h)
    have hXX := HX
    clear WX WC hV1 HX hXX
    go_enter Try.func65, Try.ntmps65
    go_wp2_with fail
    generalize hW2 : ((w.alloc (.cells #[.int .u8 op, .int .i64 n, .string nm, .slice a args.length cap] 53)).alloc (.cells #[.string nm, .int .i64 ago] 29)) = W2 at *
    have hW2s : W2.heap.size = w.heap.size + 2 := by rw [← hW2]; simp
    clear hW2
    have hll : l.length ≤ 100000 := by omega
    go_loopw [8, 9] (fun th i wr => ∃ k : Nat, k ≤ l.length ∧ i = .int .i64 k ∧ th = .bool ((l.take k).any fun r => decide (r = (nm, ago))) ∧ Ext W2 wr) (fun _ i _ => l.length - (intOf i).toNat)
    case atStart => exact ⟨0, Nat.zero_le _, rfl, rfl, Chg.refl _ _⟩
    case round =>
      obtain ⟨k, hk, rfl, rfl, rE⟩ := hrel
      by_cases hlt : k < l.length
      · have hx := List.getElem?_eq_getElem hlt
        have hV3 := hV2.chg rE (fun _ _ h => h)
        obtain ⟨g, rfl, c0, c1⟩ := hV3.get hx
        have r0 := blk_cell (Ext.heap rE WR) 0
        have r1 := blk_cell (Ext.heap rE WR) 1
        simp only [List.getElem?_toArray, List.getElem?_cons_zero, List.getElem?_cons_succ] at r0 r1
        have q1 : (k : Int) < (l.length : Int) := by omega
        have hstep : ((l.take (k + 1)).any fun r => decide (r = (nm, ago))) = (((l.take k).any fun r => decide (r = (nm, ago))) || decide (l[k] = (nm, ago))) := by
          rw [List.take_add_one, hx, List.any_append]
          simp only [Option.toList_some, List.any_cons, List.any_nil, Bool.or_false]
        generalize l[k] = y at *
        obtain ⟨y1, y2⟩ := y
        have HSt := Lib.hid hstep
        clear hstep hx
        generalize hth : ((l.take k).any fun r => decide (r = (nm, ago))) = th at *
        simp only at c0 c1
        cases th
        · by_cases e1 : y1.toList = nm.toList
          · by_cases e2 : y2 = ago
            · have hy : decide ((y1, y2) = (nm, ago)) = true := by rw [decide_eq_true_eq, Prod.mk.injEq]; exact ⟨str_eq0.1 (by simpa using e1), e2⟩
              have HY := Lib.hid hy
              clear hy
              go_wp2_with fail
              go_region
              go_wp2_with fail
              go_roundw
              case rel => exact ⟨k + 1, by omega, by go_num, by rw [HSt.out, HY.out]; rfl, rE.drew⟩
              case measure => simp [intOf]; omega
            · have hy : decide ((y1, y2) = (nm, ago)) = false := by rw [decide_eq_false_iff_not, Prod.mk.injEq]; exact fun h => e2 h.2
              have HY := Lib.hid hy
              clear hy
              go_wp2_with fail
              go_region
              go_wp2_with fail
              go_roundw
              case rel => exact ⟨k + 1, by omega, by go_num, by rw [HSt.out, HY.out]; rfl, rE.drew⟩
              case measure => simp [intOf]; omega
          · have hy : decide ((y1, y2) = (nm, ago)) = false := by rw [decide_eq_false_iff_not, Prod.mk.injEq]; exact fun h => e1 (by rw [h.1])
            have HY := Lib.hid hy
            clear hy
            go_wp2_with fail
            go_region
            go_wp2_with fail
            go_roundw
            case rel => exact ⟨k + 1, by omega, by go_num, by rw [HSt.out, HY.out]; rfl, rE.drew⟩
            case measure => simp [intOf]; omega
        · go_wp2_with fail
          go_region
          go_wp2_with fail
          go_roundw
          case rel => exact ⟨k + 1, by omega, by go_num, by rw [HSt.out]; rfl, rE.drew⟩
          case measure => simp [intOf]; omega
      · obtain rfl : k = l.length := by omega
        rw [List.take_length]
        have hV3 := hV2.chg rE (fun _ _ h => h)
        have rX3 := Ext.heap rE WX2
        have rR3 := Ext.heap rE WR
        have C3 : Chg (fun q => (Value.slice va l.length vc).ownBlock = some q) w wr := WC2.trans (rE.mono (fun _ _ h => h.elim))
        cases hth : (l.any fun r => decide (r = (nm, ago)))
        · have hst : stepR l op nm ago = l ++ [(nm, ago)] := by rw [HS.out, if_pos hth]
          obtain ⟨i0, hi, hz0, hz1, hz2⟩ := info_parts infoRf
          have hX2 := Lib.hid rX3
          have hC2 := Lib.hid C3
          have HST := Lib.hid hst
          have hwl := C3.size
          have r0 := blk_cell rR3 0
          have r1 := blk_cell rR3 1
          simp only [List.getElem?_toArray, List.getElem?_cons_zero, List.getElem?_cons_succ] at r0 r1
          clear hst hth rX3 rR3 C3 WX2 WR WC2 hV2
          go_wp2_with (at_builtin; refine wpList_append_own_at _ rfl _ _ 47 rfl base 29 i0 _ 2 24 Try.underlying47 hi hz0 hz1 hz2 rfl (by decide) _ _ _ rfl (World.ownsRow.alloc hV3 _) ⟨wr.heap.size, 0, none⟩ 1 1 (rfC (nm, ago)) rfl rfl (cell_many_new _ _ _) (by simp [rfC, Value.oneCell']) (by unfold maxLen; omega) (by omega) (by simp; omega) ?_; intro v4 w4 hown4 hgrow4 _ hat4; have X4 := Chg.heap (Chg.of_grownBy hgrow4) (Ext.heap ((Chg.refl _ _).alloc _) hX2.out) (fun h => by have := (hvlt _ h).2; omega); have y0 := blk_cell X4 0; have y3 := blk_cell X4 3; simp only [List.getElem?_toArray, List.getElem?_cons_zero, List.getElem?_cons_succ] at y0 y3)
          have HV : Hid (RfV w4 base (stepR l op nm ago) v4) := by
            show RfV _ _ _ _
            rw [HST.out]
            unfold RfV
            rw [List.length_append, List.flatMap_append]
            simpa using hown4
          have D4 := Chg.of_grownBy hgrow4
          have HC : Hid (Chg (fun q => (Value.slice va l.length vc).ownBlock = some q) w w4) := chg_more (hC2.out.alloc _) D4 (fun g hg => .inl hg)
          have HX : Hid (w4.heap[w.heap.size]? = some (.cells #[.int .u8 op, .int .i64 n, .string nm, .slice a args.length cap] 53 (0, 0))) := X4
          have HG : Hid (∀ g, v4.ownBlock = some g → (Value.slice va l.length vc).ownBlock = some g ∨ w.heap.size < g) := fun g hg => by
            rcases hat4 with h | h
            · exact .inl (h ▸ hg)
            · right
              rw [hg] at h
              have : g = (wr.alloc (.cells (rfC (nm, ago)).toArray 29)).heap.size := by simpa using h
              rw [this, World.size_alloc]
              omega
          clear hown4 hgrow4 hat4 D4 X4 r0 r1 hV3 hG0 hV
          clear b3 b19 y0 y3
          go_loopw [0, 10] (fun vv i wr => ∃ (k : Nat) (lk : List Rf), k ≤ args.length ∧ i = .int .i64 k ∧ RfV wr base lk vv ∧ gthL (stepR l op nm ago) (agoP op ago) args = gthL lk (agoP op ago) (args.drop k) ∧ lk.length + nodesL (args.drop k) ≤ 100000 ∧
              wr.heap[w.heap.size]? = some (.cells #[.int .u8 op, .int .i64 n, .string nm, .slice a args.length cap] 53 (0, 0)) ∧ Chg (fun q => (Value.slice va l.length vc).ownBlock = some q) w wr ∧ (∀ g, vv.ownBlock = some g → (Value.slice va l.length vc).ownBlock = some g ∨ w.heap.size < g)) (fun _ i _ => args.length - (intOf i).toNat)
          case atStart => exact ⟨0, _, Nat.zero_le _, rfl, HV.out, rfl, by simpa using HL.out, HX.out, HC.out, HG.out⟩
          case round =>
            obtain ⟨k, lk, hk, rfl, rV, hgl, hll, rX, rC, rG⟩ := hrel
            have HGL := Lib.hid hgl
            clear hgl
            have E1 := Ext.then hE rC (fun b hb => by have := (hvlt b hb).1; omega)
            obtain ⟨av, cv, rfl⟩ := rV.form
            have x3 := blk_cell rX 3
            simp only [List.getElem?_toArray, List.getElem?_cons_zero, List.getElem?_cons_succ] at x3
            by_cases hlt : k < args.length
            · have hx := List.getElem?_eq_getElem hlt
              have hix := HI.out _ (List.getElem_mem hlt)
              obtain ⟨b, o, v0, rfl, _, hb, z0, z1, z2, z3, _, _, _, hvx⟩ := hv0.get hx
              have c0 := Ext.cell E1 z0
              have c1 := Ext.cell E1 z1
              have c2 := Ext.cell E1 z2
              have c3 := Ext.cell E1 z3
              clear z0 z1 z2 z3
              have hn1 := nodesL_at hx
              have hg1 : gthL lk (agoP op ago) (args.drop k) = gthL (gthE lk (agoP op ago) args[k]) (agoP op ago) (args.drop (k + 1)) := by rw [List.drop_eq_getElem_cons hlt]; simp only [gthL]
              have q1 : (k : Int) < (args.length : Int) := by omega
              generalize args[k] = x at *
              have hle := gthE_le x lk (agoP op ago)
              obtain ⟨a2, cap2, rfl, _⟩ := hvx.form
              have hcall : ∀ a1 : Int, agoP op ago = a1 → Calls Try.prog 65 #[.slice av lk.length cv, .agg #[.int .u8 x.op, .int .i64 x.n, .string x.name, .slice a2 x.args.length cap2], .int .i64 a1] wr (RetGth wr base (.slice av lk.length cv) (gthE lk (agoP op ago) x)) := by
                rintro _ rfl
                exact hix _ w0 wr base lk _ (agoP op ago) hvx E1 hbw (by have := rC.size; omega) rV (by omega)
              have HCa := Lib.hid hcall
              have HG1 := Lib.hid hg1
              have rX2 := Lib.hid rX
              have hsz := rC.size
              have hXl := lt_of_block rX
              clear hcall hix hx hvx hg1 rX
              go_wp2_with fail
              refine (HCa.out _ HA.out).mono ?_
              rintro e w4 ⟨v4, rfl, V4, C4, G4⟩
              obtain ⟨av4, cv4, rfl⟩ := V4.form
              have C5 : Chg (fun q => (Value.slice va l.length vc).ownBlock = some q) w w4 := chg_more rC C4 (fun g hg => (rG g hg).imp id (fun h => by omega))
              have X4 := C4.heap rX2.out (fun h => by rcases rG _ h with h | h; exact absurd (hvlt _ h).2 (by omega); omega)
              have G5 : ∀ g, (Value.slice av4 (gthE lk (agoP op ago) x).length cv4).ownBlock = some g → (Value.slice va l.length vc).ownBlock = some g ∨ w.heap.size < g := fun g hg => by
                rcases G4 g hg with h | h
                · exact rG g h
                · exact .inr (by omega)
              have hG := Lib.hid (HGL.out.trans HG1.out)
              go_wp2_with fail
              go_roundw
              case rel => exact ⟨k + 1, _, by omega, by go_num, V4, hG.out, by omega, X4, C5, G5⟩
              case measure => simp [intOf]; omega
            · obtain rfl : k = args.length := by omega
              have hG : gthE l ago (.mk op n nm args) = lk := by
                simp only [gthE]
                rw [HGL.out, List.drop_length]
                simp only [gthL]
              have HGG := Lib.hid hG
              clear hG
              go_wp2_with fail
              go_ret
              exact ⟨_, rfl, by rw [HGG.out]; exact rV, rC, fun g hg => (rG g hg).imp id (fun h => by omega)⟩
        · have hst : stepR l op nm ago = l := by rw [HS.out, if_neg (by rw [hth]; simp)]
          have HV : Hid (RfV wr base (stepR l op nm ago) (.slice va l.length vc)) := by show RfV _ _ _ _; rw [hst]; exact hV3
          have HX := Lib.hid rX3
          have HC := Lib.hid C3
          have HG := Lib.hid hG0
          clear hst hth rX3 rR3 C3 hG0 hV3 WX2 WR WC2 hV2
          have y0 := blk_cell HX.out 0
          have y3 := blk_cell HX.out 3
          simp only [List.getElem?_toArray, List.getElem?_cons_zero, List.getElem?_cons_succ] at y0 y3
          go_wp2_with fail
          clear b3 b19 y0 y3
          go_loopw [0, 10] (fun vv i wr => ∃ (k : Nat) (lk : List Rf), k ≤ args.length ∧ i = .int .i64 k ∧ RfV wr base lk vv ∧ gthL (stepR l op nm ago) (agoP op ago) args = gthL lk (agoP op ago) (args.drop k) ∧ lk.length + nodesL (args.drop k) ≤ 100000 ∧
              wr.heap[w.heap.size]? = some (.cells #[.int .u8 op, .int .i64 n, .string nm, .slice a args.length cap] 53 (0, 0)) ∧ Chg (fun q => (Value.slice va l.length vc).ownBlock = some q) w wr ∧ (∀ g, vv.ownBlock = some g → (Value.slice va l.length vc).ownBlock = some g ∨ w.heap.size < g)) (fun _ i _ => args.length - (intOf i).toNat)
          case atStart => exact ⟨0, _, Nat.zero_le _, rfl, HV.out, rfl, by simpa using HL.out, HX.out, HC.out, HG.out⟩
          case round =>
            obtain ⟨k, lk, hk, rfl, rV, hgl, hll, rX, rC, rG⟩ := hrel
            have HGL := Lib.hid hgl
            clear hgl
            have E1 := Ext.then hE rC (fun b hb => by have := (hvlt b hb).1; omega)
            obtain ⟨av, cv, rfl⟩ := rV.form
            have x3 := blk_cell rX 3
            simp only [List.getElem?_toArray, List.getElem?_cons_zero, List.getElem?_cons_succ] at x3
            by_cases hlt : k < args.length
            · have hx := List.getElem?_eq_getElem hlt
              have hix := HI.out _ (List.getElem_mem hlt)
              obtain ⟨b, o, v0, rfl, _, hb, z0, z1, z2, z3, _, _, _, hvx⟩ := hv0.get hx
              have c0 := Ext.cell E1 z0
              have c1 := Ext.cell E1 z1
              have c2 := Ext.cell E1 z2
              have c3 := Ext.cell E1 z3
              clear z0 z1 z2 z3
              have hn1 := nodesL_at hx
              have hg1 : gthL lk (agoP op ago) (args.drop k) = gthL (gthE lk (agoP op ago) args[k]) (agoP op ago) (args.drop (k + 1)) := by rw [List.drop_eq_getElem_cons hlt]; simp only [gthL]
              have q1 : (k : Int) < (args.length : Int) := by omega
              generalize args[k] = x at *
              have hle := gthE_le x lk (agoP op ago)
              obtain ⟨a2, cap2, rfl, _⟩ := hvx.form
              have hcall : ∀ a1 : Int, agoP op ago = a1 → Calls Try.prog 65 #[.slice av lk.length cv, .agg #[.int .u8 x.op, .int .i64 x.n, .string x.name, .slice a2 x.args.length cap2], .int .i64 a1] wr (RetGth wr base (.slice av lk.length cv) (gthE lk (agoP op ago) x)) := by
                rintro _ rfl
                exact hix _ w0 wr base lk _ (agoP op ago) hvx E1 hbw (by have := rC.size; omega) rV (by omega)
              have HCa := Lib.hid hcall
              have HG1 := Lib.hid hg1
              have rX2 := Lib.hid rX
              have hsz := rC.size
              have hXl := lt_of_block rX
              clear hcall hix hx hvx hg1 rX
              go_wp2_with fail
              refine (HCa.out _ HA.out).mono ?_
              rintro e w4 ⟨v4, rfl, V4, C4, G4⟩
              obtain ⟨av4, cv4, rfl⟩ := V4.form
              have C5 : Chg (fun q => (Value.slice va l.length vc).ownBlock = some q) w w4 := chg_more rC C4 (fun g hg => (rG g hg).imp id (fun h => by omega))
              have X4 := C4.heap rX2.out (fun h => by rcases rG _ h with h | h; exact absurd (hvlt _ h).2 (by omega); omega)
              have G5 : ∀ g, (Value.slice av4 (gthE lk (agoP op ago) x).length cv4).ownBlock = some g → (Value.slice va l.length vc).ownBlock = some g ∨ w.heap.size < g := fun g hg => by
                rcases G4 g hg with h | h
                · exact rG g h
                · exact .inr (by omega)
              have hG := Lib.hid (HGL.out.trans HG1.out)
              go_wp2_with fail
              go_roundw
              case rel => exact ⟨k + 1, _, by omega, by go_num, V4, hG.out, by omega, X4, C5, G5⟩
              case measure => simp [intOf]; omega
            · obtain rfl : k = args.length := by omega
              have hG : gthE l ago (.mk op n nm args) = lk := by
                simp only [gthE]
                rw [HGL.out, List.drop_length]
                simp only [gthL]
              have HGG := Lib.hid hG
              clear hG
              go_wp2_with fail
              go_ret
              exact ⟨_, rfl, by rw [HGG.out]; exact rV, rC, fun g hg => (rG g hg).imp id (fun h => by omega)⟩
  · have hst : stepR l op nm ago = l := by simp [stepR, h3]
    have HV : Hid (RfV (w.alloc (.cells #[.int .u8 op, .int .i64 n, .string nm, .slice a args.length cap] 53)) base (stepR l op nm ago) v) := by show RfV _ _ _ _; rw [hst]; exact hV1
    have HC := Lib.hid WC
    have HG := Lib.hid hG0
    clear hst WX WC hG0 hV1
    have b3 : (op == 3) = false := by simpa using h3
    clear h3 h19
    go_enter Try.func65, Try.ntmps65
    go_wp2_with fail
    generalize (w.alloc (.cells #[.int .u8 op, .int .i64 n, .string nm, .slice a args.length cap] 53)) = W at *
    clear b3 b19
    go_loopw [0, 10] (fun vv i wr => ∃ (k : Nat) (lk : List Rf), k ≤ args.length ∧ i = .int .i64 k ∧ RfV wr base lk vv ∧ gthL (stepR l op nm ago) (agoP op ago) args = gthL lk (agoP op ago) (args.drop k) ∧ lk.length + nodesL (args.drop k) ≤ 100000 ∧
        wr.heap[w.heap.size]? = some (.cells #[.int .u8 op, .int .i64 n, .string nm, .slice a args.length cap] 53 (0, 0)) ∧ Chg (fun q => v.ownBlock = some q) w wr ∧ (∀ g, vv.ownBlock = some g → v.ownBlock = some g ∨ w.heap.size < g)) (fun _ i _ => args.length - (intOf i).toNat)
    case atStart => exact ⟨0, _, Nat.zero_le _, rfl, HV.out, rfl, by simpa using HL.out, HX.out, HC.out, HG.out⟩
    case round =>
      obtain ⟨k, lk, hk, rfl, rV, hgl, hll, rX, rC, rG⟩ := hrel
      have HGL := Lib.hid hgl
      clear hgl
      have E1 := Ext.then hE rC (fun b hb => by have := (hvlt b hb).1; omega)
      obtain ⟨av, cv, rfl⟩ := rV.form
      have x3 := blk_cell rX 3
      simp only [List.getElem?_toArray, List.getElem?_cons_zero, List.getElem?_cons_succ] at x3
      by_cases hlt : k < args.length
      · have hx := List.getElem?_eq_getElem hlt
        have hix := HI.out _ (List.getElem_mem hlt)
        obtain ⟨b, o, v0, rfl, _, hb, z0, z1, z2, z3, _, _, _, hvx⟩ := hv0.get hx
        have c0 := Ext.cell E1 z0
        have c1 := Ext.cell E1 z1
        have c2 := Ext.cell E1 z2
        have c3 := Ext.cell E1 z3
        clear z0 z1 z2 z3
        have hn1 := nodesL_at hx
        have hg1 : gthL lk (agoP op ago) (args.drop k) = gthL (gthE lk (agoP op ago) args[k]) (agoP op ago) (args.drop (k + 1)) := by rw [List.drop_eq_getElem_cons hlt]; simp only [gthL]
        have q1 : (k : Int) < (args.length : Int) := by omega
        generalize args[k] = x at *
        have hle := gthE_le x lk (agoP op ago)
        obtain ⟨a2, cap2, rfl, _⟩ := hvx.form
        have hcall : ∀ a1 : Int, agoP op ago = a1 → Calls Try.prog 65 #[.slice av lk.length cv, .agg #[.int .u8 x.op, .int .i64 x.n, .string x.name, .slice a2 x.args.length cap2], .int .i64 a1] wr (RetGth wr base (.slice av lk.length cv) (gthE lk (agoP op ago) x)) := by
          rintro _ rfl
          exact hix _ w0 wr base lk _ (agoP op ago) hvx E1 hbw (by have := rC.size; omega) rV (by omega)
        have HCa := Lib.hid hcall
        have HG1 := Lib.hid hg1
        have rX2 := Lib.hid rX
        have hsz := rC.size
        have hXl := lt_of_block rX
        clear hcall hix hx hvx hg1 rX
        go_wp2_with fail
        refine (HCa.out _ HA.out).mono ?_
        rintro e w4 ⟨v4, rfl, V4, C4, G4⟩
        obtain ⟨av4, cv4, rfl⟩ := V4.form
        have C5 : Chg (fun q => v.ownBlock = some q) w w4 := chg_more rC C4 (fun g hg => (rG g hg).imp id (fun h => by omega))
        have X4 := C4.heap rX2.out (fun h => by rcases rG _ h with h | h; exact absurd (hvlt _ h).2 (by omega); omega)
        have G5 : ∀ g, (Value.slice av4 (gthE lk (agoP op ago) x).length cv4).ownBlock = some g → v.ownBlock = some g ∨ w.heap.size < g := fun g hg => by
          rcases G4 g hg with h | h
          · exact rG g h
          · exact .inr (by omega)
        have hG := Lib.hid (HGL.out.trans HG1.out)
        go_wp2_with fail
        go_roundw
        case rel => exact ⟨k + 1, _, by omega, by go_num, V4, hG.out, by omega, X4, C5, G5⟩
        case measure => simp [intOf]; omega
      · obtain rfl : k = args.length := by omega
        have hG : gthE l ago (.mk op n nm args) = lk := by
          simp only [gthE]
          rw [HGL.out, List.drop_length]
          simp only [gthL]
        have HGG := Lib.hid hG
        clear hG
        go_wp2_with fail
        go_ret
        exact ⟨_, rfl, by rw [HGG.out]; exact rV, rC, fun g hg => (rG g hg).imp id (fun h => by omega)⟩
end Go.Proofs.Ytjdficgejjkaoaa
