/- LateChain answers true. -/
import Derived.Test.YtjdficgejjkaoaaStSel
import Derived.Test.YtjdficgejjkaoaaChainP
import Derived.Test.YtjdficgejjkaoaaTellsW
import Derived.Test.YtjdficgejjkaoaaBytes
import Derived.Deep.Cut
import Derived.Deep.CutRange
import Derived.Deep.AppendLies
import Derived.Laws.BytesArg
namespace Go.Proofs.Ytjdficgejjkaoaa
open Go.RowKit
set_option linter.unusedVariables false
set_option linter.unusedSimpArgs false

/-- The flows so far, in a row of one's own: what they are made of stays whatever is written into the box and the row. -/
def ChFl (T : Nat) (w : World) (l : List FlD) (v : Value) : Prop := ∃ ps : List (FlD × Value), ps.map (·.1) = l ∧ w.ownsRow (T + 1) 55 8 v l.length (ps.flatMap flP) ∧
  ∀ p, p ∈ ps → FlFine p.1 ∧ StS (fun q => q = T ∨ v.ownBlock = some q) (fun X => RdExV X 0 false p.1.body.args p.2) w
theorem ChFl.ext {T : Nat} {w w1 : World} {l : List FlD} {v : Value} (h : ChFl T w l v) (he : Ext w w1) : ChFl T w1 l v := by
  obtain ⟨ps, h1, h2, h3⟩ := h
  exact ⟨ps, h1, ownsRow_ext h2 he, fun p hp => ⟨(h3 p hp).1, (h3 p hp).2.ext he⟩⟩
theorem cName_str (i : Nat) : strOfNums [102, ((97 + i : Nat) : Int)] = cName i := by
  have h : strOfNums [102, ((97 + i : Nat) : Int)] = ⟨#[UInt8.ofNat 102, UInt8.ofNat ((97 + i : Nat) : Int).toNat]⟩ := rfl
  rw [h, Int.toNat_natCast]
  rfl
theorem cName_size (i : Nat) : (cName i).size ≤ maxLen := by unfold cName maxLen; simp [ByteArray.size]
theorem cLast_size (i : Nat) : (cLast i).size ≤ maxLen := by
  cases i with
  | zero => exact sz1 _
  | succ i => exact cName_size i
/-- A frame some of whose slots are known. -/
theorem act_puts {a a0 : Act} {d : Nat → Nat} (hs : a.tmps.size = a0.tmps.size) (hdf : a.defers = a0.defers) : ∀ n, (∀ i, i < n → d i < a0.tmps.size) →
    ((List.range n).foldl (fun b i => b.put (some (d i)) (a.tmps.getD (d i) undef)) a0).tmps.size = a0.tmps.size ∧ ((List.range n).foldl (fun b i => b.put (some (d i)) (a.tmps.getD (d i) undef)) a0).defers = a0.defers ∧
    ∀ t, ((∃ i, i < n ∧ d i = t) → ((List.range n).foldl (fun b i => b.put (some (d i)) (a.tmps.getD (d i) undef)) a0).tmps[t]? = a.tmps[t]?) ∧ ((∀ i, i < n → d i ≠ t) → ((List.range n).foldl (fun b i => b.put (some (d i)) (a.tmps.getD (d i) undef)) a0).tmps[t]? = a0.tmps[t]?)
  | 0, _ => ⟨rfl, rfl, fun t => ⟨fun ⟨i, hi, _⟩ => absurd hi (Nat.not_lt_zero _), fun _ => rfl⟩⟩
  | n + 1, hlt => by
    obtain ⟨h1, h2, h3⟩ := act_puts hs hdf n (fun i hi => hlt i (by omega))
    rw [List.range_succ, List.foldl_append]
    simp only [List.foldl_cons, List.foldl_nil]
    generalize (List.range n).foldl (fun b i => b.put (some (d i)) (a.tmps.getD (d i) undef)) a0 = c at *
    refine ⟨by simp [Act.put, h1], by simp [Act.put, h2], fun t => ⟨fun ⟨i, hi, e⟩ => ?_, fun hn => ?_⟩⟩
    · simp only [Act.put]
      rw [Array.getElem?_setIfInBounds]
      by_cases hd : d n = t
      · rw [if_pos hd, h1, if_pos (hlt n (by omega)), ← hd, Array.getD_eq_getD_getElem?, Array.getElem?_eq_getElem (by rw [hs]; exact hlt n (by omega))]
        rfl
      · rw [if_neg hd]
        refine (h3 t).1 ⟨i, ?_, e⟩
        have : i ≠ n := fun e2 => hd (by rw [← e2]; exact e)
        omega
    · simp only [Act.put]
      rw [Array.getElem?_setIfInBounds, if_neg (hn n (by omega))]
      exact (h3 t).2 (fun i hi => hn i (by omega))
theorem act_known {a a0 : Act} {d : Nat → Nat} {n : Nat} (hs : a.tmps.size = a0.tmps.size) (hdf : a.defers = a0.defers) (hlt : ∀ i, i < n → d i < a0.tmps.size) (hr : ∀ t, (∀ i, i < n → d i ≠ t) → a.tmps[t]? = a0.tmps[t]?) :
    a = (List.range n).foldl (fun b i => b.put (some (d i)) (a.tmps.getD (d i) undef)) a0 := by
  obtain ⟨h1, h2, h3⟩ := act_puts (d := d) hs hdf n hlt
  generalize (List.range n).foldl (fun b i => b.put (some (d i)) (a.tmps.getD (d i) undef)) a0 = c at *
  obtain ⟨ct, cd⟩ := c
  obtain ⟨at', ad⟩ := a
  simp only at *
  congr 1
  · refine Array.ext_getElem? fun t => ?_
    by_cases h : ∃ i, i < n ∧ d i = t
    · exact ((h3 t).1 h).symm
    · have hn : ∀ i, i < n → d i ≠ t := fun i hi e => h ⟨i, hi, e⟩
      rw [(h3 t).2 hn, hr t hn]
  · rw [hdf, h2]
def chD (i : Nat) : Nat := if i = 9 then 11 else i + 39
theorem ch_known {a a0 : Act} (hs : a.tmps.size = a0.tmps.size) (h103 : a0.tmps.size = 103) (hdf : a.defers = a0.defers) (hr : ∀ t, (∀ i, i < 10 → chD i ≠ t) → a.tmps[t]? = a0.tmps[t]?) : ∃ x0 x1 x2 x3 x4 x5 x6 x7 x8 x9,
    a.tmps.getD (chD 0) undef = x0 ∧ a.tmps.getD (chD 1) undef = x1 ∧ a.tmps.getD (chD 2) undef = x2 ∧ a.tmps.getD (chD 3) undef = x3 ∧ a.tmps.getD (chD 4) undef = x4 ∧ a.tmps.getD (chD 5) undef = x5 ∧ a.tmps.getD (chD 6) undef = x6 ∧ a.tmps.getD (chD 7) undef = x7 ∧ a.tmps.getD (chD 8) undef = x8 ∧ a.tmps.getD (chD 9) undef = x9 ∧
    a = (((((((((a0.put (some 39) x0).put (some 40) x1).put (some 41) x2).put (some 42) x3).put (some 43) x4).put (some 44) x5).put (some 45) x6).put (some 46) x7).put (some 47) x8).put (some 11) x9 :=
  ⟨_, _, _, _, _, _, _, _, _, _, rfl, rfl, rfl, rfl, rfl, rfl, rfl, rfl, rfl, rfl, act_known (d := chD) (n := 10) hs hdf (fun i hi => by unfold chD; split <;> omega) hr⟩
theorem ChFl.rd {T : Nat} {w : World} {l : List FlD} {v : Value} (h : ChFl T w l v) (hl : l.length ≤ 1000) : RdFlV w 0 false l v := by
  obtain ⟨ps, h1, h2, h3⟩ := h
  exact FlV.rd (w0 := w) (base := T + 1) ⟨ps, h1, h2, fun p hp => ⟨(h3 p hp).1, (h3 p hp).2.at⟩⟩ (Chg.refl _ _) (by unfold fitsR; omega)
theorem chg_then {S S2 : Nat → Prop} {w w1 w2 : World} (h : Chg S w w1) (k : Chg S2 w1 w2) (hs : ∀ q, S2 q → S q ∨ w.heap.size ≤ q) : Chg S w w2 :=
  ⟨k.os.trans h.os, k.tape.trans h.tape, k.output.trans h.output, Nat.le_trans h.size k.size, fun b hb hn => by
    have := h.size
    exact (k.block b (by omega) (fun h' => by
      rcases hs b h' with h2 | h2
      · exact hn h2
      · omega)).trans (h.block b hb hn)⟩
theorem fine_body (b : Bool) {s : ByteArray} (hs : s.size ≤ maxLen) : isU8 (bodyC b s).op ∧ isI64 (bodyC b s).n ∧ (bodyC b s).name.size ≤ maxLen := by
  cases b
  · exact ⟨by show isU8 3; unfold isU8; omega, by show isI64 0; unfold isI64; omega, hs⟩
  · exact ⟨by show isU8 18; unfold isU8; omega, by show isI64 0; unfold isI64; omega, by show sNo.size ≤ maxLen; exact Nat.zero_le _⟩
theorem fine_C (S : List Int) (B : List Bool) (i : Nat) : FlFine (cFl S B i) := by
  have h := cSt_rng S i
  obtain ⟨k1, k2, k3⟩ := fine_body (cBk B i) (cLast_size i)
  exact ⟨cName_size i, by show isU8 1; unfold isU8; omega, by show isI64 (cSt S i); unfold isI64; omega, by show isI64 0; unfold isI64; omega, k1, k2, k3⟩
theorem chain_lateA (S : List Int) (B : List Bool) (n : Nat) (hn : n ≤ 20) : LateA (cPr S B n) (cLs S B n) 0 := by
  unfold LateA
  rw [if_pos (cPr_n S B n hn)]
  exact .inl ⟨rfl, cPr_least S B n hn⟩
/-- What each slot holds. -/
def ChΦ (i : Nat) (c : Int) (nm : ByteArray) (st : Int) (s : ByteArray) (B : Nat) (j : Nat) (v : Value) (W : World) : Prop :=
  match j with
  | 0 => v = .int .i64 i
  | 1 => v = .int .u8 i
  | 2 => v = .int .u8 c
  | 3 => ∃ g, v = .slice (some ⟨g, 0, none⟩) 2 2 ∧ W.heap[g]? = some (.cells #[.int .u8 102, .int .u8 c] 5 (0, 0))
  | 4 => v = .string nm
  | 5 => v = .int .i64 st
  | 6 => v = .string s
  | 7 => v = .agg #[.int .u8 3, .int .i64 0, .string s, .slice none 0 0]
  | 8 => v = .agg #[.string nm, .int .u8 1, .int .i64 st, .int .i64 0, .int .u8 3, .int .i64 0, .string s, .slice none 0 0]
  | 9 => ∃ F, v = .pointer (some ⟨F, 0, none⟩) ∧ B ≤ F ∧ W.heap[F]? = some (.cells #[.string ⟨#[]⟩, .int .u8 0, .int .i64 0, .int .i64 0, .int .u8 0, .int .i64 0, .string ⟨#[]⟩, .slice none 0 0] 55 (0, 0))
  | _ => True
theorem ChΦ.ext {i : Nat} {c : Int} {nm : ByteArray} {st : Int} {s : ByteArray} {B : Nat} (j : Nat) (v : Value) (X Y : World) (h : ChΦ i c nm st s B j v X) (he : Ext X Y) : ChΦ i c nm st s B j v Y := by
  unfold ChΦ at h ⊢
  split at h
  all_goals first
    | exact h
    | (obtain ⟨g, h1, h2⟩ := h; exact ⟨g, h1, Ext.heap he h2⟩)
    | (obtain ⟨g, h1, h2, h3⟩ := h; exact ⟨g, h1, h2, Ext.heap he h3⟩)
    | trivial
section
variable {P : Program} {ops : Array Oper} {Q : Exit → Act → World → Prop}
theorem region_linD {id n : Nat} {d : Nat → Nat} {Φ : Nat → Value → World → Prop} {W0 : World} {a0 : Act} (deps : List (List Nat)) (hm : P.follows .mixedOrders = true) (hn : ops.size = n + 1) (hd : ∀ i j, i < n → j < n → d i = d j → i = j) (hlt : ∀ i, i < n → d i < a0.tmps.size)
    (hB : (depsB ops n deps && topB ops && lastB ops n) = true) (hst : ∀ i v X Y, Φ i v X → Ext X Y → Φ i v Y)
    (step : ∀ i, i < n → ∀ a w, Ext W0 w → a.tmps.size = a0.tmps.size → a.defers = a0.defers → (∀ t, (∀ i, i < n → d i ≠ t) → a.tmps[t]? = a0.tmps[t]?) → (∀ j, j ∈ deps.getD i [] → Φ j (a.tmps.getD (d j) undef) w) →
      wpOp P ops Q i (fun a' w' => ∃ u, a' = a.put (some (d i)) u ∧ Φ i u w' ∧ Ext w w') a w)
    (last : ∀ a w, Ext W0 w → a.tmps.size = a0.tmps.size → a.defers = a0.defers → (∀ t, (∀ i, i < n → d i ≠ t) → a.tmps[t]? = a0.tmps[t]?) → (∀ j, j < n → Φ j (a.tmps.getD (d j) undef) w) → wpOp P ops Q n (fun a' w' => Q .normal a' w') a w) :
    (Code.region id ops true).wp P Q a0 W0 := by
  rw [Bool.and_eq_true, Bool.and_eq_true] at hB
  obtain ⟨⟨h1, h2⟩, h3⟩ := hB
  refine region_lin (d := d) (deps := fun i => deps.getD i []) hm hn hst hd hlt (fun i hi j hj => ?_) (topB_spec h2) (fun j hj => depB_spec (List.all_eq_true.1 h3 j (List.mem_range.2 hj))) step last
  have := List.all_eq_true.1 (List.all_eq_true.1 h1 i (List.mem_range.2 hi)) j hj
  rw [Bool.and_eq_true, decide_eq_true_eq] at this
  exact ⟨this.1, depB_spec this.2⟩
end
theorem at_of {a : Act} {t : Nat} {x : Value} (h : t < a.tmps.size) (e : a.tmps.getD t undef = x) : a.tmps[t]? = some x := by
  rw [Array.getD_eq_getD_getElem?, Array.getElem?_eq_getElem h] at e
  rw [Array.getElem?_eq_getElem h]
  exact congrArg some e
theorem chD_inj : ∀ i j, i < 10 → j < 10 → chD i = chD j → i = j := by
  intro i j hi hj h
  unfold chD at h
  split at h <;> split at h <;> omega
theorem chD_lt : ∀ i, i < 10 → chD i < 103 := by
  intro i hi
  unfold chD
  split <;> omega
set_option maxRecDepth 100000 in
set_option maxHeartbeats 16000000 in
theorem lateChain_any (S : List Int) (sv : Value) (B : List Bool) (bv : Value) (w : World) (hs : RdU8V w S sv) (hb : RdBoV w B bv) : Calls Try.prog 5 #[sv, bv] w (RetT w) := by
  have HS := Lib.hid hs
  have HB := Lib.hid hb
  obtain ⟨sa, sc, rfl, hsf⟩ := hs.form
  obtain ⟨ba, bc, rfl, hbf⟩ := hb.form
  unfold fitsR at hsf hbf
  clear hs hb
  have HLV := Lib.hid lives_any
  go_enter Try.func5, Try.ntmps5
  by_cases h0 : S.length = 0
  case pos =>
    have bz : (((S.length : Nat) : Int) == 0) = true := by simp [h0]
    go_wp2_with fail
    refine (HLV.out _).mono ?_
    rintro e w3 ⟨rfl, E3⟩
    go_wp2_with fail
    go_ret
    exact ⟨rfl, E3⟩
  have bz : (((S.length : Nat) : Int) == 0) = false := by simp; intro h; exact h0 (by rw [h]; rfl)
  by_cases h20 : (20 : Int) < (S.length : Int)
  case pos =>
    go_wp2_with fail
    refine (HLV.out _).mono ?_
    rintro e w3 ⟨rfl, E3⟩
    go_wp2_with fail
    go_ret
    exact ⟨rfl, E3⟩
  go_upto_region 4 with (fail)
  generalize hV1 : w.alloc _ = V1
  obtain ⟨sV1, bV1, eV1⟩ := chain1 hV1
  clear hV1
  generalize hV : V1.alloc _ = V
  obtain ⟨sV, bV, eV⟩ := chain1 hV
  clear hV
  generalize hI : w.heap.size = I at *
  have HI := Lib.hid hI
  clear hI
  rw [sV1] at bV sV
  generalize hT : I + 1 = T at *
  have HT := Lib.hid hT
  have HV1 := Lib.hid sV1
  clear hT
  have HIN := Lib.hid (fun (X : World) (hX : Ext V1 X) => in1_rd (Ext.heap hX bV1))
  clear bV1 sV1
  have hown0 : ChFl T V ((List.range 0).map (cFl S B)) (.slice none 0 0) := ⟨[], rfl, World.ownsRow_nil _ _ _ _, fun p hp => by simp at hp⟩
  go_wp2_with fail
  go_loopw [6, 7, 8, 9] (fun v6 v7 v8 v9 wr => ∃ (i : Nat) (a : Option Addr) (cap : Nat), i ≤ S.length ∧ v6 = .string (cLast i) ∧ v7 = .int .i64 (cPst S i) ∧ v8 = .int .i64 (cWant S B i) ∧ v9 = .int .i64 i ∧ wr.heap[T]? = some (.cells #[.int .i64 4, .slice (some ⟨I, 0, none⟩) 1 1, .slice a i cap, .slice none 0 0] 26 (0, 0)) ∧ ChFl T wr ((List.range i).map (cFl S B)) (.slice a i cap) ∧ Ext V1 wr) (fun _ _ _ v9 _ => S.length - (intOf v9).toNat)
  case atStart => exact ⟨0, none, 0, Nat.zero_le _, rfl, rfl, rfl, rfl, bV, hown0, eV⟩
  case round =>
    clear hown0 bV
    obtain ⟨i, a, cap, hi, rfl, rfl, rfl, rfl, hbx, hch, rE⟩ := hrel
    have HCH := Lib.hid hch
    have HBX := Lib.hid hbx
    by_cases hlt : i < S.length
    case neg =>
      go_wp2_with fail
      refine (HLV.out _).mono ?_
      rintro e w5 ⟨rfl, E5⟩
      go_wp2_with fail
      go_ret
      exact ⟨rfl, (eV1.trans rE).trans E5⟩
    have hii : (i : Int) < (S.length : Int) := by omega
    have hi0 : (0 : Int) ≤ (i : Int) := by omega
    have hi20 : i < 20 := by omega
    obtain ⟨hu8, bs, os, rfl, hbs, c0⟩ := HS.out.get (List.getElem?_eq_getElem hlt)
    have hst : 1 + S[i] % 4 = cSt S i := by unfold cSt; rw [List.getD_eq_getElem?_getD, List.getElem?_eq_getElem hlt]; rfl
    generalize S[i] = si at *
    have R0 := eV1.trans rE
    have c0 := Ext.cell R0 c0
    unfold isU8 at hu8
    obtain ⟨hu0, hu1⟩ := hu8
    have hsr := cSt_rng S i
    have hw1 : IntKind.i64.wrap (1 + si % 4) = cSt S i := by rw [hst, IntKind.wrap_i64] <;> omega
    have hw2 : IntKind.i64.wrap si = si := by rw [IntKind.wrap_i64] <;> omega
    have HW := Lib.hid (cWant_rng S B i)
    generalize hcst : cSt S i = st at *
    have HCST := Lib.hid hcst
    have HST := Lib.hid hst
    have HSR := Lib.hid hsr
    clear hcst hst hch hbx hsr
    generalize hcl : cLast i = ls at *
    have HCL := Lib.hid hcl
    clear hcl
    have hi8 : IntKind.u8.wrap (i : Int) = (i : Int) := by rw [IntKind.wrap_u8] <;> omega
    obtain ⟨c, hc⟩ : ∃ c : Int, c = ((97 + i : Nat) : Int) := ⟨_, rfl⟩
    have hc8 : IntKind.u8.wrap (97 + (i : Int)) = c := by rw [IntKind.wrap_u8] <;> omega
    have hstr : strOfNums [102, c] = cName i := by rw [hc]; exact cName_str i
    have HC := Lib.hid hc
    clear hc
    generalize hcn : cName i = nm at *
    have HCN := Lib.hid hcn
    clear hcn
    go_upto_region 11 with (fail)
    rename_i KR hKR
    refine region_linD (n := 10) (d := chD) (Φ := ChΦ i c nm st ls wr.heap.size) [[], [0], [1], [2], [3], [], [], [6], [4, 5, 7], []] (by kernel_rfl) rfl chD_inj chD_lt (by kernel_rfl) ChΦ.ext ?step ?last
    case step =>
      intro j hj a0 W hE hs hdf hr hv
      have hs103 : a0.tmps.size = 103 := hs
      have m6 : a0.tmps[6]? = some (.string ls) := hr 6 (fun i hi => by unfold chD; split <;> omega)
      have m9 : a0.tmps[9]? = some (.int .i64 i) := hr 9 (fun i hi => by unfold chD; split <;> omega)
      have m10 : a0.tmps[10]? = some (.int .i64 st) := hr 10 (fun i hi => by unfold chD; split <;> omega)
      clear hs hdf hr
      have er : Ext W W := Chg.refl _ _
      match j, hj with
      | 0, _ =>
        clear hv
        clear hs103
        refine wpOp_step (o := _) rfl (fun K' hK => ?_)
        go_simp
        exact hK _ _ ⟨.int .i64 i, rfl, rfl, er⟩
      | 1, _ =>
        have d0 : (a0.tmps.getD (chD 0) undef) = .int .i64 i := hv 0 (by simp)
        clear hv
        have k0 := at_of (t := chD 0) (by rw [hs103]; exact chD_lt 0 (by omega)) d0
        simp only [chD, if_neg, reduceIte, Nat.reduceEqDiff, Nat.reduceAdd] at k0
        clear hs103
        refine wpOp_step (o := _) rfl (fun K' hK => ?_)
        go_simp
        exact hK _ _ ⟨.int .u8 i, rfl, rfl, er⟩
      | 2, _ =>
        have d1 : (a0.tmps.getD (chD 1) undef) = .int .u8 i := hv 1 (by simp)
        clear hv
        have k1 := at_of (t := chD 1) (by rw [hs103]; exact chD_lt 1 (by omega)) d1
        simp only [chD, if_neg, reduceIte, Nat.reduceEqDiff, Nat.reduceAdd] at k1
        clear hs103
        refine wpOp_step (o := _) rfl (fun K' hK => ?_)
        go_simp
        exact hK _ _ ⟨.int .u8 c, rfl, rfl, er⟩
      | 3, _ =>
        have d2 : (a0.tmps.getD (chD 2) undef) = .int .u8 c := hv 2 (by simp)
        clear hv
        have k2 := at_of (t := chD 2) (by rw [hs103]; exact chD_lt 2 (by omega)) d2
        simp only [chD, if_neg, reduceIte, Nat.reduceEqDiff, Nat.reduceAdd] at k2
        have E := er.alloc (.cells #[.int .u8 102, .int .u8 c] 5)
        clear hs103
        refine wpOp_step (o := _) rfl (fun K' hK => ?_)
        go_simp
        exact hK _ _ ⟨.slice (some ⟨W.heap.size, 0, none⟩) 2 2, rfl, ⟨_, rfl, heap_alloc_new W _⟩, E⟩
      | 4, _ =>
        have d3 : ∃ g, (a0.tmps.getD (chD 3) undef) = .slice (some ⟨g, 0, none⟩) 2 2 ∧ W.heap[g]? = some (.cells #[.int .u8 102, .int .u8 c] 5 (0, 0)) := hv 3 (by simp)
        clear hv
        obtain ⟨g, d3, hg⟩ := d3
        have k3 := at_of (t := chD 3) (by rw [hs103]; exact chD_lt 3 (by omega)) d3
        simp only [chD, if_neg, reduceIte, Nat.reduceEqDiff, Nat.reduceAdd] at k3
        have hcv := run_convert_bytes_arg (P := Try.prog) W 43 5 Try.underlying43 Try.underlying5 g 0 2 2 [102, c] rfl (fun k hk => by
          rw [Nat.zero_add, blk_cell hg]
          match k, hk with
          | 0, _ => rfl
          | 1, _ => rfl) 9 Try.underlying9
        rw [hstr] at hcv
        clear hs103
        refine wpOp_step (o := _) rfl (fun K' hK => ?_)
        go_simp
        exact hK _ _ ⟨.string nm, rfl, rfl, er⟩
      | 5, _ =>
        clear hv
        clear hs103
        refine wpOp_step (o := _) rfl (fun K' hK => ?_)
        go_simp
        exact hK _ _ ⟨.int .i64 st, rfl, rfl, er⟩
      | 6, _ =>
        clear hv
        clear hs103
        refine wpOp_step (o := _) rfl (fun K' hK => ?_)
        go_simp
        exact hK _ _ ⟨.string ls, rfl, rfl, er⟩
      | 7, _ =>
        have d6 : (a0.tmps.getD (chD 6) undef) = .string ls := hv 6 (by simp)
        clear hv
        have k6 := at_of (t := chD 6) (by rw [hs103]; exact chD_lt 6 (by omega)) d6
        simp only [chD, if_neg, reduceIte, Nat.reduceEqDiff, Nat.reduceAdd] at k6
        clear hs103
        refine wpOp_step (o := _) rfl (fun K' hK => ?_)
        go_simp
        refine (name14_any _ W).mono ?_
        rintro e w5 ⟨rfl, E5⟩
        exact hK _ _ ⟨.agg #[.int .u8 3, .int .i64 0, .string ls, .slice none 0 0], rfl, rfl, E5⟩
      | 8, _ =>
        have d4 : (a0.tmps.getD (chD 4) undef) = .string nm := hv 4 (by simp)
        have d5 : (a0.tmps.getD (chD 5) undef) = .int .i64 st := hv 5 (by simp)
        have d7 : (a0.tmps.getD (chD 7) undef) = .agg #[.int .u8 3, .int .i64 0, .string ls, .slice none 0 0] := hv 7 (by simp)
        clear hv
        have k4 := at_of (t := chD 4) (by rw [hs103]; exact chD_lt 4 (by omega)) d4
        simp only [chD, if_neg, reduceIte, Nat.reduceEqDiff, Nat.reduceAdd] at k4
        have k5 := at_of (t := chD 5) (by rw [hs103]; exact chD_lt 5 (by omega)) d5
        simp only [chD, if_neg, reduceIte, Nat.reduceEqDiff, Nat.reduceAdd] at k5
        have k7 := at_of (t := chD 7) (by rw [hs103]; exact chD_lt 7 (by omega)) d7
        simp only [chD, if_neg, reduceIte, Nat.reduceEqDiff, Nat.reduceAdd] at k7
        clear hs103
        refine wpOp_step (o := _) rfl (fun K' hK => ?_)
        go_simp
        exact hK _ _ ⟨.agg #[.string nm, .int .u8 1, .int .i64 st, .int .i64 0, .int .u8 3, .int .i64 0, .string ls, .slice none 0 0], rfl, rfl, er⟩
      | 9, _ =>
        clear hv
        have E := er.alloc (.cells #[.string ⟨#[]⟩, .int .u8 0, .int .i64 0, .int .i64 0, .int .u8 0, .int .i64 0, .string ⟨#[]⟩, .slice none 0 0] 55)
        clear hs103
        refine wpOp_step (o := _) rfl (fun K' hK => ?_)
        go_simp
        exact hK _ _ ⟨.pointer (some ⟨W.heap.size, 0, none⟩), rfl, ⟨_, rfl, hE.size, heap_alloc_new W _⟩, E⟩
      | n + 10, h => omega
    case last =>
      intro a0 W hE hs hdf hr hv
      obtain ⟨x0, x1, x2, x3, x4, x5, x6, x7, x8, x9, e0, e1, e2, e3, e4, e5, e6, e7, e8, e9, ha⟩ := ch_known hs rfl hdf hr
      have hs103 : a0.tmps.size = 103 := hs
      have d8 : x8 = .agg #[.string nm, .int .u8 1, .int .i64 st, .int .i64 0, .int .u8 3, .int .i64 0, .string ls, .slice none 0 0] := by have h := hv 8 (by omega); rw [e8] at h; exact h
      have d9 : ∃ F, x9 = .pointer (some ⟨F, 0, none⟩) ∧ wr.heap.size ≤ F ∧ W.heap[F]? = some (.cells #[.string ⟨#[]⟩, .int .u8 0, .int .i64 0, .int .i64 0, .int .u8 0, .int .i64 0, .string ⟨#[]⟩, .slice none 0 0] 55 (0, 0)) := by have h := hv 9 (by omega); rw [e9] at h; exact h
      obtain ⟨F, rfl, hF, B1⟩ := d9
      subst d8
      have k8 := at_of (t := chD 8) (by rw [hs103]; exact chD_lt 8 (by omega)) e8
      have k9 := at_of (t := chD 9) (by rw [hs103]; exact chD_lt 9 (by omega)) e9
      simp only [chD, if_neg, reduceIte, Nat.reduceEqDiff, Nat.reduceAdd] at k8 k9
      clear hs hdf hr hv e0 e1 e2 e3 e4 e5 e6 e7 e8 e9 hs103
      have c0 := (blk_cell B1 0).trans rfl
      have f0 := blk_free B1 0
      have c1 := (blk_cell B1 1).trans rfl
      have f1 := blk_free B1 1
      have c2 := (blk_cell B1 2).trans rfl
      have f2 := blk_free B1 2
      have c3 := (blk_cell B1 3).trans rfl
      have f3 := blk_free B1 3
      have c4 := (blk_cell B1 4).trans rfl
      have f4 := blk_free B1 4
      have c5 := (blk_cell B1 5).trans rfl
      have f5 := blk_free B1 5
      have c6 := (blk_cell B1 6).trans rfl
      have f6 := blk_free B1 6
      have c7 := (blk_cell B1 7).trans rfl
      have f7 := blk_free B1 7
      simp only [List.getElem?_toArray, List.getElem?_cons_zero, List.getElem?_cons_succ] at c0 c1 c2 c3 c4 c5 c6 c7
      refine wpOp_step (o := _) rfl (fun K' hK => ?_)
      go_simp
      refine hK _ _ ?_
      clear hK k8 k9
      subst ha
      have C8 := chg_sets8 W F (.string nm) (.int .u8 1) (.int .i64 st) (.int .i64 0) (.int .u8 3) (.int .i64 0) (.string ls) (.slice none 0 0)
      have B8 := blk_set (blk_set (blk_set (blk_set (blk_set (blk_set (blk_set (blk_set (B1) 0 (.string nm)) 1 (.int .u8 1)) 2 (.int .i64 st)) 3 (.int .i64 0)) 4 (.int .u8 3)) 5 (.int .i64 0)) 6 (.string ls)) 7 (.slice none 0 0)
      have B8 : (((((((((W).setCell ⟨F, 0, none⟩ (.string nm)).setCell ⟨F, 1, none⟩ (.int .u8 1)).setCell ⟨F, 2, none⟩ (.int .i64 st)).setCell ⟨F, 3, none⟩ (.int .i64 0)).setCell ⟨F, 4, none⟩ (.int .u8 3)).setCell ⟨F, 5, none⟩ (.int .i64 0)).setCell ⟨F, 6, none⟩ (.string ls)).setCell ⟨F, 7, none⟩ (.slice none 0 0)).heap[F]? = some (.cells #[.string nm, .int .u8 1, .int .i64 st, .int .i64 0, .int .u8 3, .int .i64 0, .string ls, .slice none 0 0] 55 (0, 0)) := B8
      have E9 := Ext.then hE C8 (fun b hb => by omega)
      clear c0 f0 c1 f1 c2 f2 c3 f3 c4 f4 c5 f5 c6 f6 c7 f7 C8 B1 hE
      generalize (((((((((W).setCell ⟨F, 0, none⟩ (.string nm)).setCell ⟨F, 1, none⟩ (.int .u8 1)).setCell ⟨F, 2, none⟩ (.int .i64 st)).setCell ⟨F, 3, none⟩ (.int .i64 0)).setCell ⟨F, 4, none⟩ (.int .u8 3)).setCell ⟨F, 5, none⟩ (.int .i64 0)).setCell ⟨F, 6, none⟩ (.string ls)).setCell ⟨F, 7, none⟩ (.slice none 0 0)) = W9 at *
      clear K'
      have RW := R0.trans E9
      have hTw := lt_of_block HBX.out
      have hown : ∀ q, (Value.slice a i cap).ownBlock = some q → q < wr.heap.size := fun q hq => by
        obtain ⟨ps, h1, h2, _⟩ := HCH.out
        rw [List.length_map, List.length_range] at h2
        cases a with
        | none => simp [Value.ownBlock] at hq
        | some ad =>
          rcases h2.2 with ⟨e, _⟩ | ⟨g, cp, cur, e, hb, hg, _⟩
          · cases e
          · simp only [Value.slice.injEq, Option.some.injEq] at e
            obtain ⟨rfl, _, _⟩ := e
            simp only [Value.ownBlock, Option.some.injEq] at hq
            rw [← hq]; exact lt_of_block hg
      have hF9 := lt_of_block B8
      have hls := cLast_size i
      rw [HCL.out] at hls
      have hwr0 := HW.out
      refine hKR _ _ ?_
      refine wp_seq_k (fun K2 hK2 => ?_)
      go_cut [8] from 26 to 101 (fun v8 wc => ∃ bv : Value, v8 = .int .i64 (cWant S B i + (if cBk B i then -1 else 0)) ∧ wc.heap[F]? = some (.cells #[.string nm, .int .u8 1, .int .i64 st, .int .i64 0, .int .u8 (bodyC (cBk B i) ls).op, .int .i64 (bodyC (cBk B i) ls).n, .string (bodyC (cBk B i) ls).name, bv] 55 (0, 0)) ∧ StS (fun q => q = T ∨ q = F ∨ (Value.slice a i cap).ownBlock = some q) (fun X => RdExV X 0 false (bodyC (cBk B i) ls).args bv) wc ∧ Ext wr wc)
      case first =>
        by_cases hib : i < B.length
        · obtain ⟨bb, ob, rfl, hbb, cb⟩ := HB.out.get (List.getElem?_eq_getElem hib)
          have hbk : cBk B i = B[i] := by unfold cBk; rw [List.getD_eq_getElem?_getD, List.getElem?_eq_getElem hib]; rfl
          generalize B[i] = bi at *
          have cb := Ext.cell RW cb
          have hibI : (i : Int) < (B.length : Int) := by omega
          cases bi
          · go_wp2_with fail
            go_meet
            case rel => rw [hbk]; exact ⟨.slice none 0 0, by simp, B8, fun X hX => rd_none X, E9⟩
          · go_wp2_with fail
            refine (name14_any _ _).mono ?_
            rintro e w5 ⟨rfl, E5⟩
            go_wp2_with fail
            refine (pre14_S (fun q => q = T ∨ q = F ∨ (Value.slice (a) i cap).ownBlock = some q) (nmE ls) _ w5 (fun q hq => by
              have := E9.size
              have := E5.size
              rcases hq with h | h | h
              · omega
              · omega
              · have := hown q h; omega) (fun X _ => exa_nm X ls hls)).mono ?_
            rintro e w6 ⟨r, rfl, hr, E6⟩
            obtain ⟨ra, rfl, _, _, _, hrv⟩ := hr.at
            obtain ⟨rb, rc, rfl, _⟩ := hrv.form
            have B6 := Ext.heap (E5.trans E6) B8
            have HR := Lib.hid hr
            clear hr hrv
            have hy : bodyC true ls = thenE noughtE (preE (nmE ls)) := rfl
            generalize thenE noughtE (preE (nmE ls)) = y at *
            have c4 := (blk_cell B6 4).trans rfl
            have c5 := (blk_cell B6 5).trans rfl
            have c6 := (blk_cell B6 6).trans rfl
            have c7 := (blk_cell B6 7).trans rfl
            simp only [List.getElem?_toArray, List.getElem?_cons_zero, List.getElem?_cons_succ] at c4 c5 c6 c7
            have f4 := blk_free B6 4
            have f5 := blk_free B6 5
            have f6 := blk_free B6 6
            have f7 := blk_free B6 7
            have hwm : IntKind.i64.wrap (cWant S B i - 1) = cWant S B i - 1 := by rw [IntKind.wrap_i64] <;> omega
            go_wp2_with fail
            go_meet
            case rel =>
              rw [hbk, hy]
              have C4 : Chg (fun q => q = F) w6 ((((w6.setCell ⟨F, 4, none⟩ (.int .u8 y.op)).setCell ⟨F, 5, none⟩ (.int .i64 y.n)).setCell ⟨F, 6, none⟩ (.string y.name)).setCell ⟨F, 7, none⟩ (.slice rb y.args.length rc)) := by
                iterate 4 (refine Chg.setCell ?_ _ _ (.inl (Eq.refl F)))
                exact Chg.refl _ _
              refine ⟨.slice rb y.args.length rc, by simp; omega, blk_set (blk_set (blk_set (blk_set B6 4 _) 5 _) 6 _) 7 _, fun X hX => ?_, Ext.then (E9.trans (E5.trans E6)) C4 (fun b hb => by omega)⟩
              obtain ⟨u2, e2, _, _, _, hu2⟩ := HR.out X ((C4.mono (fun q _ h => .inr (.inl h))).trans hX)
              simp only [Value.agg.injEq, Array.mk.injEq, List.cons.injEq, and_true, true_and] at e2
              rw [e2]; exact hu2
        · have hbk : cBk B i = false := by unfold cBk; rw [List.getD_eq_getElem?_getD, List.getElem?_eq_none (by omega)]; rfl
          have hibI : ¬ (i : Int) < (B.length : Int) := by omega
          go_wp2_with fail
          go_meet
          case rel => rw [hbk]; exact ⟨.slice none 0 0, by simp, B8, fun X hX => rd_none X, E9⟩
      case rest =>
        obtain ⟨bv, rfl, hFb, hbv, cE⟩ := hcut
        obtain ⟨z, hz⟩ : ∃ z, z = (if cBk B i = true then (-1 : Int) else 0) := ⟨_, rfl⟩
        have hzr : -1 ≤ z ∧ z ≤ 0 := by rw [hz]; split <;> omega
        simp only [← hz]
        have HZ := Lib.hid hz
        clear hz
        refine hK2 _ _ ?_
        refine wp_seq_k (fun K3 hK3 => ?_)
        go_cut [8] from 26 to 101 (fun v8 wd => v8 = .int .i64 (cWant S B i + cMore S B i) ∧ wd = wc)
        case first =>
          by_cases hat : st = cPst S i
          · have bn : (st != cPst S i) = false := by simp [hat]
            go_wp2_with fail
            go_meet
            case rel => exact ⟨by unfold cMore; rw [HCST.out, if_pos hat, ← HZ.out]; simp, rfl⟩
          · have bn : (st != cPst S i) = true := by simp [hat]
            have hwp : IntKind.i64.wrap (cWant S B i + z + 1) = cWant S B i + z + 1 := by rw [IntKind.wrap_i64] <;> omega
            go_wp2_with fail
            go_meet
            case rel => exact ⟨by unfold cMore; rw [HCST.out, if_neg hat, ← HZ.out]; simp; omega, rfl⟩
        case rest =>
          obtain ⟨rfl, rfl⟩ := hcut
          refine hK3 _ _ ?_
          have hmx : max (cWant S B i + cMore S B i) 0 = cWant S B (i + 1) := rfl
          have HW1 := Lib.hid (cWant_rng S B (i + 1))
          generalize cWant S B i + cMore S B i = mo at *
          generalize hwn : cWant S B (i + 1) = wn at *
          have HWN := Lib.hid hwn
          clear hwn
          refine wp_seq_k (fun K4 hK4 => ?_)
          go_cut [8] from 26 to 101 (fun v8 wd => v8 = .int .i64 wn ∧ wd = wc)
          case first =>
            go_wp2_with fail
            all_goals go_meet
            all_goals (refine ⟨?_, rfl⟩; congr 1; omega)
          obtain ⟨rfl, rfl⟩ := hcut
          refine hK4 _ _ ?_
          clear hmx
          have hbx2 := Ext.heap cE HBX.out
          have y2 := (blk_cell hbx2 2).trans rfl
          have y2f := blk_free hbx2 2
          simp only [List.getElem?_toArray, List.getElem?_cons_zero, List.getElem?_cons_succ] at y2
          generalize hy : bodyC (cBk B i) ls = y at *
          have HY := Lib.hid hy
          clear hy
          have c0 := (blk_cell hFb 0).trans rfl
          have c1 := (blk_cell hFb 1).trans rfl
          have c2 := (blk_cell hFb 2).trans rfl
          have c3 := (blk_cell hFb 3).trans rfl
          have c4 := (blk_cell hFb 4).trans rfl
          have c5 := (blk_cell hFb 5).trans rfl
          have c6 := (blk_cell hFb 6).trans rfl
          have c7 := (blk_cell hFb 7).trans rfl
          simp only [List.getElem?_toArray, List.getElem?_cons_zero, List.getElem?_cons_succ] at c0 c1 c2 c3 c4 c5 c6 c7
          obtain ⟨bva, bvc, rfl, _⟩ := hbv.at.form
          have hone : ∀ u ∈ [(.string nm : Value), .int .u8 1, .int .i64 st, .int .i64 0, .int .u8 y.op, .int .i64 y.n, .string y.name, .slice bva y.args.length bvc], u.oneCell' = true := by simp [Value.oneCell']
          obtain ⟨ps, h1, h2, h3⟩ := HCH.out
          have h2 := ownsRow_ext h2 cE
          rw [List.length_map, List.length_range] at h2
          have H3 := Lib.hid h3
          have H1 := Lib.hid h1
          clear h3 h1
          obtain ⟨i0, hinf, hz0, hz1, hz2⟩ := info_parts infoFl
          have hV1s := HV1.out
          have hTne : ∀ q, (Value.slice a i cap).ownBlock = some q → T + 1 ≤ q := fun q hq => (World.ownsRow.lt h2 q hq).1
          have hTc := lt_of_block hbx2
          go_wp2_with (at_builtin; refine wpList_append_lies _ rfl _ _ 23 rfl (T + 1) 55 i0 _ 8 96 Try.underlying23 hinf hz0 hz1 hz2 rfl (by decide) (.slice a i cap) i (ps.flatMap flP) rfl (ownsRow_ext h2 ((Chg.refl _ _).alloc _)) ⟨wc.heap.size, 0, none⟩ 1 1 [.string nm, .int .u8 1, .int .i64 st, .int .i64 0, .int .u8 y.op, .int .i64 y.n, .string y.name, .slice bva y.args.length bvc] rfl rfl (World.news_of_block (heap_alloc_new wc _)) hone (by decide) (by unfold maxLen; omega) (by omega) (by simp; omega) _ rfl ?_; intro g6 cap6 w7 hown6 hgrow6 hat6 hlt6; have U7 := (Chg.of_grownBy hgrow6).heap (Ext.heap ((Chg.refl _ _).alloc _) hbx2) (fun h => by have := hTne _ h; omega); have u7 := (blk_cell U7 2).trans rfl; have u7f := blk_free U7 2; have u70 := (blk_cell U7 0).trans rfl; have u71 := (blk_cell U7 1).trans rfl; have u73 := (blk_cell U7 3).trans rfl; simp only [List.getElem?_toArray, List.getElem?_cons_zero, List.getElem?_cons_succ] at u7 u70 u71 u73)
          have C8 : Chg (fun q => q = T) w7 (w7.setCell ⟨T, 2, none⟩ (.slice (some ⟨g6, 0, none⟩) (i + 1) cap6)) := Chg.setCell (Chg.refl _ w7) _ _ (.inl rfl)
          have hg6 : T + 1 ≤ g6 := (World.ownsRow.lt hown6 g6 rfl).1
          have U8 := blk_set U7 2 (.slice (some ⟨g6, 0, none⟩) (i + 1) cap6)
          have U8 : (w7.setCell ⟨T, 2, none⟩ (.slice (some ⟨g6, 0, none⟩) (i + 1) cap6)).heap[T]? = some (.cells #[.int .i64 4, .slice (some ⟨I, 0, none⟩) 1 1, .slice (some ⟨g6, 0, none⟩) (i + 1) cap6, .slice none 0 0] 26 (0, 0)) := U8
          have O8 := ownsRow_chg hown6 C8 (fun h => by omega)
          have CT : Chg (fun q => q = T ∨ (Value.slice a i cap).ownBlock = some q) wc (w7.setCell ⟨T, 2, none⟩ (.slice (some ⟨g6, 0, none⟩) (i + 1) cap6)) := (((Chg.refl _ wc).alloc _).trans ((Chg.of_grownBy hgrow6).mono (fun q _ h => .inr h))).trans (C8.mono (fun q _ h => .inl h))
          have E8 : Ext V1 (w7.setCell ⟨T, 2, none⟩ (.slice (some ⟨g6, 0, none⟩) (i + 1) cap6)) := Ext.then (rE.trans cE) CT (fun q h => by
            rcases h with h | h
            · omega
            · have := hTne q h; omega)
          have hFB8 := CT.heap hFb (fun h => by
            rcases h with h | h
            · omega
            · have := hown F h; omega)
          have hgc : (Value.slice a i cap).ownBlock = some g6 ∨ wc.heap.size ≤ g6 := by
            rcases hat6 with h | h
            · exact .inl h
            · right; simp at h; omega
          have hlsz := cE.size
          generalize (w7.setCell ⟨T, 2, none⟩ (.slice (some ⟨g6, 0, none⟩) (i + 1) cap6)) = W8 at *
          have CHN : ChFl T W8 ((List.range (i + 1)).map (cFl S B)) (.slice (some ⟨g6, 0, none⟩) (i + 1) cap6) := by
            refine ⟨ps ++ [(cFl S B i, .slice bva y.args.length bvc)], by rw [List.map_append, H1.out, List.range_succ, List.map_append]; rfl, ?_, fun p hp => ?_⟩
            · rw [List.length_map, List.length_range, List.flatMap_append]
              have e : [(cFl S B i, Value.slice bva y.args.length bvc)].flatMap flP = [.string nm, .int .u8 1, .int .i64 st, .int .i64 0, .int .u8 y.op, .int .i64 y.n, .string y.name, .slice bva y.args.length bvc] := by
                rw [← HY.out, ← HCL.out, ← HCN.out, ← HCST.out]
                simp [flP, flC, cFl]
              rw [e]; exact O8
            · have hst2 : ∀ q, (q = T ∨ (Value.slice (some ⟨g6, 0, none⟩) (i + 1) cap6).ownBlock = some q) → (q = T ∨ (Value.slice a i cap).ownBlock = some q) ∨ wc.heap.size ≤ q := fun q h => by
                rcases h with h | h
                · exact .inl (.inl h)
                · simp only [Value.ownBlock, Option.some.injEq] at h
                  subst h
                  rcases hgc with h2 | h2
                  · exact .inl (.inr h2)
                  · exact .inr h2
              rcases List.mem_append.1 hp with hp | hp
              · exact ⟨(H3.out p hp).1, fun X hX => (H3.out p hp).2 X ((cE.mono (fun _ _ h => h.elim)).trans (chg_then CT hX hst2))⟩
              · simp only [List.mem_singleton] at hp
                subst hp
                refine ⟨fine_C S B i, fun X hX => ?_⟩
                have := hbv X ((chg_then CT hX hst2).mono (fun q _ h => by
                  rcases h with h | h
                  · exact .inl h
                  · exact .inr (.inr h)))
                rw [← HY.out, ← HCL.out] at this
                rw [← HY.out, ← HCL.out]
                exact this
          have HPR := Lib.hid (fun (X : World) (hX : Ext W8 X) => (⟨_, _, _, rfl, by show isI64 4; unfold isI64; omega, HIN.out X (E8.trans hX), by
            have h := (CHN.ext hX).rd (by rw [List.length_map, List.length_range]; omega)
            exact h, ⟨none, 0, rfl, by simp [cPr, fitsR], Nat.zero_le _, Nat.zero_le _, fun k x hx => by simp [cPr] at hx, fun h => by cases h⟩⟩ : RdPr X 0 false (cPr S B (i + 1)) #[.int .i64 4, .slice (some ⟨I, 0, none⟩) 1 1, .slice (some ⟨g6, 0, none⟩) (i + 1) cap6, .slice none 0 0]))
          have HCHN := Lib.hid CHN
          have HU8 := Lib.hid U8
          have HLA := Lib.hid (chain_lateA S B (i + 1) (by omega))
          have t0 := (blk_cell U8 0).trans rfl
          have t1 := (blk_cell U8 1).trans rfl
          have t2 := (blk_cell U8 2).trans rfl
          have t3 := (blk_cell U8 3).trans rfl
          simp only [List.getElem?_toArray, List.getElem?_cons_zero, List.getElem?_cons_succ] at t0 t1 t2 t3
          have HOF := Lib.hid (lateOf_any (cPr S B (i + 1)) _ W8 (HPR.out _ (Chg.refl _ _)))
          clear CHN U8 U7 u7 u7f u70 u71 u73 O8 hown6 hgrow6 hat6 hlt6 hbv h2 y2 y2f hbx2 CT C8 hFb c0 c1 c2 c3 c4 c5 c6 c7
          refine HOF.out.mono ?_
          rintro e w9 ⟨m, v, nf, hlq, rfl, hvq, E9'⟩
          clear HOF
          obtain ⟨rfl, rfl⟩ := hlq.unique HLA.out
          obtain ⟨gm, hvm, hgm0, hgm⟩ : LsV w9 W8.heap.size (cLs S B (i + 1)) v := by
            rcases hvq with ⟨_, h⟩ | ⟨h, _⟩
            · exact h
            · exact absurd rfl h
          rw [cLs_len] at hvm
          subst hvm
          have hxm : w9.cell? ⟨gm, i, none⟩ = some (.int .i64 wn) := by
            rw [blk_cell hgm, ← HWN.out]
            have := cLs_get S B (i + 1) i (by omega)
            simp [this]
          have hF9' := Ext.heap E9' hFB8
          have q0 := (blk_cell hF9' 0).trans rfl
          simp only [List.getElem?_toArray, List.getElem?_cons_zero, List.getElem?_cons_succ] at q0
          have HU9 := Lib.hid (Ext.heap E9' HU8.out)
          have HCH9 := Lib.hid (HCHN.out.ext E9')
          have EE := E8.trans E9'
          have hwi : IntKind.i64.wrap ((i : Int) + 1) = ((i + 1 : Nat) : Int) := by rw [IntKind.wrap_i64] <;> omega
          have hil : (i : Int) < ((i + 1 : Nat) : Int) := by omega
          have hil2 : (i : Int) < (i : Int) + 1 := by omega
          have hmu : S.length - (i + 1) < S.length - i := by omega
          clear hlq hvq hgm hF9' hFB8 t0 t1 t2 t3
          go_wp2_with fail
          go_roundw
          case rel => exact ⟨i + 1, _, cap6, by omega, by rw [← HCN.out]; rfl, by rw [← HCST.out]; rfl, by rw [HWN.out], by go_num, HU9.out, HCH9.out, EE⟩
          case measure => simp [intOf]; omega
end Go.Proofs.Ytjdficgejjkaoaa
