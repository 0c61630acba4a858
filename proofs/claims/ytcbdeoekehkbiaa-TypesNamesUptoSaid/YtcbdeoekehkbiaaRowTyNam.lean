/- What is proved: for every input the law TypesNames returns true and leaves its arguments as they were. Where what it reads is of bulk at most 1048576. -/
import Derived.Test.YtcbdeoekehkbiaaTyTurnP
import Derived.Test.YtcbdeoekehkbiaaSizeB
import Derived.Test.YtcbdeoekehkbiaaRowF2
import Derived.Test.YtcbdeoekehkbiaaTyAlive
import Derived.Test.YtcbdeoekehkbiaaTyGreat
import Derived.Deep.Cut
import Derived.Deep.AppendLies
import Derived.Deep.RegionLaw
import Derived.Deep.RegionHeld3
import Derived.Test.YtcbdeoekehkbiaaOpenP
import Derived.OpenShut
import Derived.ShutString
import Derived.ChangeOld
import Derived.ChangeMaps5
import Derived.Deep.CondSized
import Derived.Test.YtcbdeoekehkbiaaOpenB
namespace Go.Proofs.Ytcbdeoekehkbiaa
open Go.RowKit
set_option linter.unusedVariables false
set_option linter.unusedSimpArgs false

mutual
theorem nms_size : ∀ (x : Ex) (s : ByteArray), s ∈ nmsE x → s.size ≤ sE x
  | .mk op n nm args, s, h => by
    simp only [nmsE, List.mem_append] at h
    simp only [sE]
    rcases h with h | h
    · by_cases h3 : op = 3
      · rw [if_pos h3] at h
        simp only [List.mem_singleton] at h
        subst h
        omega
      · rw [if_neg h3] at h; simp at h
    · have := nmsL_size args s h
      omega
theorem nmsL_size : ∀ (l : List Ex) (s : ByteArray), s ∈ nmsL l → s.size ≤ sL l
  | [], s, h => by simp [nmsL] at h
  | x :: r, s, h => by
    simp only [nmsL, List.mem_append] at h
    simp only [sL]
    rcases h with h | h
    · have := nms_size x s h; omega
    · have := nmsL_size r s h; omega
end
theorem ref_size {x : Ex} {r : Rf} (h : r ∈ gthE [] 0 x) : r.1.size ≤ sE x := by
  rcases (gth_nms x [] 0 r.1).1 (List.mem_map.2 ⟨r, h, rfl⟩) with h' | h'
  · simp at h'
  · exact nms_size x _ h'
def otherS : ByteArray := ⟨#[111, 116, 104, 101, 114]⟩
def insOf (p : PrD) : List Rf → List InD
  | [] => []
  | r :: l => if (findP r.1 p.flows p.ins).2.2.2 = true then ⟨r.1, (findP r.1 p.flows p.ins).2.1, 0⟩ :: insOf p l else insOf p l
def namP (p : PrD) (t : Int) (l : List Rf) : PrD := ⟨0, ⟨otherS, t, 0⟩ :: insOf p l, [], []⟩
theorem insOf_append (p : PrD) : ∀ (a b : List Rf), insOf p (a ++ b) = insOf p a ++ insOf p b
  | [], b => rfl
  | r :: l, b => by
    simp only [List.cons_append, insOf]
    by_cases h : (findP r.1 p.flows p.ins).2.2.2 = true
    · rw [if_pos h, if_pos h, insOf_append p l b]; rfl
    · rw [if_neg h, if_neg h, insOf_append p l b]
theorem insOf_step {p : PrD} {l : List Rf} {i : Nat} {r : Rf} (h : l[i]? = some r) : insOf p (l.take (i + 1)) = insOf p (l.take i) ++ (if (findP r.1 p.flows p.ins).2.2.2 = true then [⟨r.1, (findP r.1 p.flows p.ins).2.1, 0⟩] else []) := by
  rw [List.take_add_one, h, insOf_append]
  simp only [Option.toList_some, insOf]
theorem insOf_len (p : PrD) : ∀ l : List Rf, (insOf p l).length ≤ l.length
  | [] => Nat.le_refl _
  | r :: l => by
    simp only [insOf]
    have := insOf_len p l
    split <;> simp only [List.length_cons] <;> omega
open Classical in
theorem find_insOf (p : PrD) (s : ByteArray) : ∀ l : List Rf, findP s [] (insOf p l) = if (s ∈ l.map (·.1)) ∧ (findP s p.flows p.ins).2.2.2 = true then (0, (findP s p.flows p.ins).2.1, -1, true) else (0, 0, 0, false)
  | [] => by simp [insOf, findP, findFl]
  | r :: l => by
    have ih := find_insOf p s l
    simp only [insOf]
    by_cases h : (findP r.1 p.flows p.ins).2.2.2 = true
    · rw [if_pos h]
      simp only [findP]
      by_cases hs : r.1 = s
      · subst hs
        rw [if_pos rfl, if_pos ⟨by simp, h⟩]
      · rw [if_neg hs, ih]
        have : (s ∈ (r :: l).map (·.1)) ↔ s ∈ l.map (·.1) := by
          rw [List.map_cons, List.mem_cons]
          constructor
          · rintro (h | h)
            · exact absurd h.symm hs
            · exact h
          · exact .inr
        simp only [this]
    · rw [if_neg h, ih]
      by_cases hs : r.1 = s
      · subst hs
        rw [if_neg (fun k => h k.2), if_neg (fun k => h k.2)]
      · have : (s ∈ (r :: l).map (·.1)) ↔ s ∈ l.map (·.1) := by
          rw [List.map_cons, List.mem_cons]
          constructor
          · rintro (h | h)
            · exact absurd h.symm hs
            · exact h
          · exact .inr
        simp only [this]
open Classical in
/-- Nothing asked for is called other: the answer is the same. -/
theorem nam_law (p : PrD) (t : Int) (x : Ex) (h : ∀ r, r ∈ gthE [] 0 x → r.1 ≠ otherS) : tyP (namP p t (gthE [] 0 x)) x = tyP p x := by
  refine tyP_same (fun s hs => ?_)
  have hm : s ∈ (gthE [] 0 x).map (·.1) := (gth_nms x [] 0 s).2 (.inr hs)
  have hne : s ≠ otherS := by
    obtain ⟨r, hr, rfl⟩ := List.mem_map.1 hm
    exact h r hr
  have e : findP s (namP p t (gthE [] 0 x)).flows (namP p t (gthE [] 0 x)).ins = if (findP s p.flows p.ins).2.2.2 = true then (0, (findP s p.flows p.ins).2.1, -1, true) else (0, 0, 0, false) := by
    show findP s [] (⟨otherS, t, 0⟩ :: insOf p (gthE [] 0 x)) = _
    simp only [findP]
    rw [if_neg (fun k => hne k.symm), find_insOf]
    simp only [hm, true_and]
  unfold nameT
  rw [e]
  by_cases hf : (findP s p.flows p.ins).2.2.2 = true
  · rw [if_pos hf, hf]
    exact ⟨rfl, rfl⟩
  · rw [if_neg hf]
    have hn : s ∉ namesT p := fun k => hf (find_there.2 k)
    obtain ⟨a1, a2⟩ := find_none hn
    rw [a1, a2]
    exact ⟨rfl, rfl⟩
theorem insOf_mem {p : PrD} {y : InD} : ∀ {l : List Rf}, y ∈ insOf p l → ∃ r, r ∈ l ∧ y = ⟨r.1, (findP r.1 p.flows p.ins).2.1, 0⟩
  | [], h => by simp [insOf] at h
  | r :: l, h => by
    simp only [insOf] at h
    split at h
    · rcases List.mem_cons.1 h with rfl | h
      · exact ⟨r, by simp, rfl⟩
      · obtain ⟨q, hq, e⟩ := insOf_mem h
        exact ⟨q, List.mem_cons_of_mem _ hq, e⟩
    · obtain ⟨q, hq, e⟩ := insOf_mem h
      exact ⟨q, List.mem_cons_of_mem _ hq, e⟩
theorem findFl_u8 (s : ByteArray) : ∀ (l : List FlD) (i : Nat), (∀ x, x ∈ l → isU8 x.ty) → isU8 (findFl s i l).2.1
  | [], i, _ => by simp [findFl, isU8]
  | x :: r, i, h => by
    unfold findFl
    split
    · exact h x (by simp)
    · exact findFl_u8 s r (i + 1) (fun y hy => h y (List.mem_cons_of_mem _ hy))
theorem find_u8 (s : ByteArray) (fl : List FlD) (hf : ∀ x, x ∈ fl → isU8 x.ty) : ∀ (l : List InD), (∀ x, x ∈ l → isU8 x.ty) → isU8 (findP s fl l).2.1
  | [], _ => findFl_u8 s fl 0 hf
  | x :: r, h => by
    unfold findP
    split
    · exact h x (by simp)
    · exact find_u8 s fl hf r (fun y hy => h y (List.mem_cons_of_mem _ hy))
theorem find_u8_rd {w : World} {lo : Nat} {t : Bool} {p : PrD} {cs : Array Value} (h : RdPr w lo t p cs) (s : ByteArray) : isU8 (findP s p.flows p.ins).2.1 := by
  obtain ⟨_, _, _, _, _, hi, hf, _⟩ := h
  refine find_u8 s p.flows (fun x hx => ?_) p.ins (fun x hx => ?_)
  · obtain ⟨j, hj⟩ := List.mem_iff_getElem?.1 hx
    exact (hf.fine hj).2.1
  · obtain ⟨_, _, _, _, _, _, i4, _⟩ := hi
    obtain ⟨j, hj⟩ := List.mem_iff_getElem?.1 hx
    exact (i4 j x hj).2.1
theorem namP_rd {w w0 : World} {base cap lo n : Nat} {a : Option Addr} {p : PrD} {t : Int} {l : List Rf} {tb : Bool} {cs : Array Value} (hp : RdPr w0 lo tb p cs) (h : w.ownsRow base 64 3 (.slice a n cap) n ((⟨otherS, t, 0⟩ :: insOf p l).flatMap inC)) (hn : n = (insOf p l).length + 1) (ht : isU8 t)
    (hs : ∀ r, r ∈ l → r.1.size ≤ maxLen) (hl : l.length ≤ 100000) : RdPr w 0 false (namP p t l) #[.int .i64 0, .slice a n cap, .slice none 0 0, .slice none 0 0] := by
  have := insOf_len p l
  subst hn
  have hv : InsV w base (⟨otherS, t, 0⟩ :: insOf p l) (.slice a ((insOf p l).length + 1) cap) := ⟨by simpa using h, fun x hx => by
    rcases List.mem_cons.1 hx with rfl | hx
    · exact ⟨by simp [otherS, ByteArray.size, maxLen], ht, by simp [isI64]⟩
    · obtain ⟨r, hr, rfl⟩ := insOf_mem hx
      exact ⟨hs r hr, find_u8_rd hp r.1, by simp [isI64]⟩⟩
  exact ⟨_, _, _, rfl, by simp [namP, isI64], hv.rd (by unfold fitsR; simp only [List.length_cons]; omega), ⟨none, 0, rfl, by simp [fitsR, namP], Nat.zero_le _, Nat.zero_le _, fun i x hx => by simp [namP] at hx, fun h => by cases h⟩,
    ⟨none, 0, rfl, by simp [fitsR, namP], Nat.zero_le _, Nat.zero_le _, fun i x hx => by simp [namP] at hx, fun h => by cases h⟩⟩
end Go.Proofs.Ytcbdeoekehkbiaa
namespace Go.Proofs.Ytcbdeoekehkbiaa
open Go.RowKit
set_option linter.unusedVariables false
set_option linter.unusedSimpArgs false

set_option maxRecDepth 100000 in
set_option maxHeartbeats 8000000 in
theorem typesNames_any (p : PrD) (cs : Array Value) (x : Ex) (cx : Array Value) (tt : Int) (w : World) (h : RdPr w 0 false p cs) (hx : RdEx w 0 false x cx.toList) (hsz : sE x ≤ 1048576) (htt : isU8 tt) : Calls Try.prog 11 #[.agg cs, .agg cx, .int .u8 tt] w (RetT w) := by
  obtain ⟨v, hop, hn, hnm, hv, rfl⟩ : ∃ v, isU8 x.op ∧ isI64 x.n ∧ x.name.size ≤ maxLen ∧ RdExV w 0 false x.args v ∧ cx = #[.int .u8 x.op, .int .i64 x.n, .string x.name, v] := by
    obtain ⟨op, n, nm, args⟩ := x
    obtain ⟨v, e, h1, h2, h3, h4⟩ := hx.open
    exact ⟨v, h1, h2, h3, h4, by obtain ⟨l⟩ := cx; have e2 : l = [.int .u8 op, .int .i64 n, .string nm, v] := e; subst e2; rfl⟩
  clear hx
  have HP := Lib.hid h
  have HV := Lib.hid hv
  obtain ⟨a, cap, rfl, _⟩ := hv.form
  clear hv
  obtain ⟨ai, ci, af, cf, ao, co, rfl⟩ := pr_form h
  clear h
  have HA := Lib.hid tyAlive_any
  go_enter Try.func11, Try.ntmps11
  go_wp2_with fail
  have e0 := (Chg.refl (fun _ => False) w).alloc (.cells #[.int .i64 p.st, .slice ai p.ins.length ci, .slice af p.flows.length cf, .slice ao p.outs.length co] 36)
  have bP := heap_alloc_new w (.cells #[.int .i64 p.st, .slice ai p.ins.length ci, .slice af p.flows.length cf, .slice ao p.outs.length co] 36)
  have bX := heap_alloc_new (w.alloc (.cells #[.int .i64 p.st, .slice ai p.ins.length ci, .slice af p.flows.length cf, .slice ao p.outs.length co] 36)) (.cells #[.int .u8 x.op, .int .i64 x.n, .string x.name, .slice a x.args.length cap] 25)
  rw [World.size_alloc] at bX
  have e1 := (Chg.refl (fun _ => False) (w.alloc (.cells #[.int .i64 p.st, .slice ai p.ins.length ci, .slice af p.flows.length cf, .slice ao p.outs.length co] 36))).alloc (.cells #[.int .u8 x.op, .int .i64 x.n, .string x.name, .slice a x.args.length cap] 25)
  have bP := Ext.heap e1 bP
  have e0 := e0.trans e1
  clear e1
  generalize ((w.alloc (.cells #[.int .i64 p.st, .slice ai p.ins.length ci, .slice af p.flows.length cf, .slice ao p.outs.length co] 36)).alloc (.cells #[.int .u8 x.op, .int .i64 x.n, .string x.name, .slice a x.args.length cap] 25)) = W0 at *
  have y0 : ∀ X, Ext W0 X → X.cell? ⟨w.heap.size, 0, none⟩ = some (.int .i64 p.st) := fun X hX => (blk_cell (Ext.heap hX bP) 0).trans rfl
  have y1 : ∀ X, Ext W0 X → X.cell? ⟨w.heap.size, 1, none⟩ = some (.slice ai p.ins.length ci) := fun X hX => (blk_cell (Ext.heap hX bP) 1).trans rfl
  have y2 : ∀ X, Ext W0 X → X.cell? ⟨w.heap.size, 2, none⟩ = some (.slice af p.flows.length cf) := fun X hX => (blk_cell (Ext.heap hX bP) 2).trans rfl
  have y3 : ∀ X, Ext W0 X → X.cell? ⟨w.heap.size, 3, none⟩ = some (.slice ao p.outs.length co) := fun X hX => (blk_cell (Ext.heap hX bP) 3).trans rfl
  have x0 : ∀ X, Ext W0 X → X.cell? ⟨w.heap.size + 1, 0, none⟩ = some (.int .u8 x.op) := fun X hX => (blk_cell (Ext.heap hX bX) 0).trans rfl
  have x1 : ∀ X, Ext W0 X → X.cell? ⟨w.heap.size + 1, 1, none⟩ = some (.int .i64 x.n) := fun X hX => (blk_cell (Ext.heap hX bX) 1).trans rfl
  have x2 : ∀ X, Ext W0 X → X.cell? ⟨w.heap.size + 1, 2, none⟩ = some (.string x.name) := fun X hX => (blk_cell (Ext.heap hX bX) 2).trans rfl
  have x3 : ∀ X, Ext W0 X → X.cell? ⟨w.heap.size + 1, 3, none⟩ = some (.slice a x.args.length cap) := fun X hX => (blk_cell (Ext.heap hX bX) 3).trans rfl
  have ed : ∀ X, Ext W0 X → Ext W0 X.drew := fun X hX => hX.drew
  have ea : ∀ X o, Ext W0 X → Ext W0 (X.alloc o) := fun X o hX => hX.alloc o
  refine (HA.out _).mono ?_
  rintro e w1 ⟨rfl, E1⟩
  have HG := Lib.hid (tyGreat_any p _ _ (HP.out.ext (e0.trans E1)))
  go_wp2_with fail
  refine HG.out.mono ?_
  rintro e w2 ⟨b, rfl, E2'⟩
  have F2 := E1.trans E2'
  clear HG E2' E1
  cases b
  case true =>
    go_wp2_with fail
    refine (HA.out _).mono ?_
    rintro e w3 ⟨rfl, E3⟩
    go_wp2_with fail
    go_ret
    exact ⟨rfl, (e0.trans F2).trans E3⟩
  have HZ := Lib.hid (exprSizeB_any x _ w2 (HV.out.ext (e0.trans F2)) (by omega))
  go_wp2_with fail
  refine HZ.out.mono ?_
  rintro e w3 ⟨m, rfl, hm1, hm2, E3⟩
  have F4 := F2.trans E3
  clear HZ E3 F2
  by_cases hm : 20000 < m
  · have hmI : (20000 : Int) < (m : Int) := by omega
    clear hm2
    go_wp2_with fail
    refine (HA.out _).mono ?_
    rintro e w4 ⟨rfl, E4⟩
    go_wp2_with fail
    go_ret
    exact ⟨rfl, (e0.trans F4).trans E4⟩
  clear HA
  have hnd : nodesE x ≤ 20000 := by have := hm2 (by omega); omega
  have hmI : ¬ (20000 : Int) < (m : Int) := by omega
  have hnl := gthE_le x [] 0
  have HR := Lib.hid (fun (X : World) (hX : Ext w X) => refs_any x _ X (HV.out.ext hX) hnm (by omega))
  have HO1 := Lib.hid (tyOf_any p x _ _ w3 (HP.out.ext (e0.trans F4)) (HV.out.ext (e0.trans F4)) hnm)
  have HOq := Lib.hid (fun (q : PrD) (cq : Array Value) (X : World) (hX : Ext w X) (hq : RdPr X 0 false q cq) => tyOf_any q x cq _ X hq (HV.out.ext hX) hnm)
  have HLAW := Lib.hid (nam_law p tt x)
  have HNM := Lib.hid (fun (r : Rf) (hr : r ∈ gthE [] 0 x) => Nat.le_trans (ref_size hr) hsz)
  have HFd := Lib.hid (fun (s : ByteArray) (X : World) (hX : Ext w X) => find_any p s _ X (HP.out.ext hX))
  generalize hL : gthE [] 0 x = L at *
  clear hL hm2 hm1 hm
  simp only [List.length_nil] at hnl
  have nL : L.length ≤ 20000 := by omega
  generalize tyP p x = sp at *
  obtain ⟨sp1, sp2⟩ := sp
  unfold RetTO at HO1
  simp only at HO1
  clear hnl
  have HTT := Lib.hid htt
  clear htt
  go_wp2_with fail
  refine HO1.out.mono ?_
  rintro e w4 ⟨rfl, E4⟩
  have F4 := F4.trans E4
  clear HO1 E4
  go_wp2_with fail
  refine (HR.out _ (e0.trans F4)).mono ?_
  rintro e w5 ⟨sv, rfl, V5, E5⟩
  obtain ⟨ar, cr, rfl⟩ := V5.form
  have F5 := F4.trans E5
  clear HR E5 F4
  go_upto_region 6 with (fail)
  generalize hV1 : w5.alloc _ = V1
  obtain ⟨sV1, bV1, eV1⟩ := chain1 hV1
  clear hV1
  generalize hV : V1.alloc _ = V
  obtain ⟨sV, bV, eV⟩ := chain1 hV
  clear hV
  generalize hA5 : w5.heap.size = A at *
  have HA5 := Lib.hid hA5
  clear hA5
  have F6 := (F5.trans eV1).trans eV
  obtain ⟨i0, hinf, hz0, hz1, hz2⟩ := info_parts infoIn
  have own0 : V.ownsRow A 64 3 (.slice (some ⟨A, 0, none⟩) 1 1) 1 ((⟨otherS, tt, 0⟩ :: insOf p (L.take 0)).flatMap inC) := by
    refine ⟨rfl, .inr ⟨A, 1, #[.string otherS, .int .u8 tt, .int .i64 0], rfl, Nat.le_refl _, Ext.heap eV bV1, ?_⟩⟩
    refine ⟨?_, ?_⟩
    all_goals first | rfl | decide | (simp [maxLen]; done) | skip
    all_goals try (refine ⟨?_, ?_⟩)
    all_goals first | rfl | decide | (simp [maxLen]; done) | skip
    all_goals try (refine ⟨?_, ?_⟩)
    all_goals first | rfl | decide | (simp [maxLen]; done) | skip
  rw [sV1] at bV sV
  generalize hT : A + 1 = T at *
  have HT := Lib.hid hT
  clear hT
  have eV5 : Ext w5 V := eV1.trans eV
  go_wp2_with fail
  go_loopw [11] (fun iv wr => ∃ (i n : Nat) (a : Option Addr) (cap : Nat), i ≤ L.length ∧ n = (insOf p (L.take i)).length + 1 ∧ iv = .int .i64 i ∧ wr.heap[T]? = some (.cells #[.int .i64 0, .slice a n cap, .slice none 0 0, .slice none 0 0] 36 (0, 0)) ∧ wr.ownsRow A 64 3 (.slice a n cap) n ((⟨otherS, tt, 0⟩ :: insOf p (L.take i)).flatMap inC) ∧ (Value.slice a n cap).ownBlock ≠ some T ∧ (∀ r, r ∈ L.take i → r.1 ≠ otherS) ∧ Ext w5 wr) (fun i _ => L.length - (intOf i).toNat)
  case atStart => exact ⟨0, 1, some ⟨A, 0, none⟩, 1, Nat.zero_le _, rfl, rfl, bV, own0, (by have := HT.out; simp [Value.ownBlock]; omega), (fun r hr => by simp at hr), eV5⟩
  case round =>
    clear own0 bV bV1
    obtain ⟨i, n, a1, cap1, hi, hn, rfl, hb, hown, hne, hno, r5⟩ := hrel
    have rE : Ext W0 wr := F5.trans r5
    have HN := Lib.hid hn
    have HNE := Lib.hid hne
    have HNO := Lib.hid hno
    have hTl := lt_of_block hb
    clear hne hno
    have hnb : n ≤ 20001 := by have := insOf_len p (L.take i); have := List.length_take_le i L; omega
    clear hn
    by_cases hlt : i < L.length
    · have hr := List.getElem?_eq_getElem hlt
      obtain ⟨gr, rfl, c0, c1⟩ := V5.get hr
      have hq : (i : Int) < (L.length : Int) := by omega
      have hst := Lib.hid (insOf_step (p := p) hr)
      have hrs := HNM.out _ (List.getElem_mem hlt)
      have htk := Lib.hid (List.take_succ_eq_append_getElem hlt)
      generalize L[i] = r at *
      have l0 : ∀ X, Ext w5 X → X.cell? ⟨gr, i * 2, none⟩ = some (.string r.1) := fun X hX => Ext.cell hX c0
      have HF := Lib.hid (HFd.out r.1 wr.drew (e0.trans rE.drew))
      unfold RetFind fourV at HF
      generalize findP r.1 p.flows p.ins = fq at *
      obtain ⟨fa, fb, fc, fd⟩ := fq
      simp only at HF hst
      have s0 : ∀ X, Ext wr X → X.cell? ⟨w.heap.size, 0, none⟩ = some (.int .i64 p.st) := fun X hX => y0 X (rE.trans hX)
      have s1 : ∀ X, Ext wr X → X.cell? ⟨w.heap.size, 1, none⟩ = some (.slice ai p.ins.length ci) := fun X hX => y1 X (rE.trans hX)
      have s2 : ∀ X, Ext wr X → X.cell? ⟨w.heap.size, 2, none⟩ = some (.slice af p.flows.length cf) := fun X hX => y2 X (rE.trans hX)
      have s3 : ∀ X, Ext wr X → X.cell? ⟨w.heap.size, 3, none⟩ = some (.slice ao p.outs.length co) := fun X hX => y3 X (rE.trans hX)
      have s4 : ∀ X, Ext wr X → X.cell? ⟨gr, i * 2, none⟩ = some (.string r.1) := fun X hX => l0 X (r5.trans hX)
      have G0 : Ext wr wr.drew := (Chg.refl _ _).drew
      clear y0 y1 y2 y3 x0 x1 x2 x3 l0 hr c0 c1
      go_wp2_with fail
      go_region_held3 (fun X => Ext wr X) (first | assumption)
        (first
          | (go_at_call 27; refine HF.out.mono ?_; rintro e w9 ⟨rfl, E9⟩; have G9 := G0.trans E9))
      clear G0 s0 s1 s2 s3
      have F9 : Ext w5 w9 := r5.trans G9
      have HG9 := Lib.hid G9
      have HB9 := Lib.hid (Ext.heap G9 hb)
      have HO9 := Lib.hid (ownsRow_ext hown G9)
      have HE := Lib.hid (e0.trans F5)
      have s5 : w9.cell? ⟨gr, i * 2, none⟩ = some (.string r.1) := s4 _ G9
      clear hb hown s4
      cases fd
      · simp only [Bool.false_eq_true, if_false, List.append_nil] at hst
        go_wp2_with fail
        · go_ret
          exact ⟨rfl, HE.out.trans F9⟩
        · have hro : r.1 ≠ otherS := fun e => by have h := ‹(r.1.toList == _) = false›; rw [e] at h; simp [otherS, ByteArray.toList_eq] at h
          go_roundw
          case rel => exact ⟨i + 1, n, a1, cap1, by omega, by rw [hst.out]; exact HN.out, by go_num, HB9.out, by rw [hst.out]; exact HO9.out, HNE.out, fun q hq => by
            rw [htk.out] at hq
            rcases List.mem_append.1 hq with hq | hq
            · exact HNO.out q hq
            · simp only [List.mem_singleton] at hq
              rw [hq]; exact hro, F9⟩
          case measure => simp [intOf]; omega
      · simp only [if_true] at hst
        have hb := HB9.out
        have hnb2 : (w9.alloc (.cells #[.string r.1, .int .u8 fb, .int .i64 0] 64)).drew.heap[w9.heap.size]? = some (.cells #[.string r.1, .int .u8 fb, .int .i64 0] 64 (0, 0)) := heap_alloc_new w9 _
        have hnews := World.news_of_block hnb2
        have hown4 : (w9.alloc (.cells #[.string r.1, .int .u8 fb, .int .i64 0] 64)).drew.ownsRow A 64 3 (.slice a1 n cap1) n ((⟨otherS, tt, 0⟩ :: insOf p (L.take i)).flatMap inC) := World.ownsRow.alloc HO9.out _
        have eA : Ext w9 (w9.alloc (.cells #[.string r.1, .int .u8 fb, .int .i64 0] 64)).drew := ((Chg.refl _ _).alloc _).drew
        have hbA := Ext.heap eA hb
        have hT9 := lt_of_block hb
        have hA9 : A ≤ w9.heap.size := by have := HT.out; omega
        have hlay : ∀ (X' : World), (w9.alloc (.cells #[.string r.1, .int .u8 fb, .int .i64 0] 64)).drew.grownBy X' (Value.slice a1 n cap1).ownBlock → X'.heap[T]? = some (.cells #[.int .i64 0, .slice a1 n cap1, .slice none 0 0, .slice none 0 0] 36 (0, 0)) ∧ X'.cell? ⟨T, 1, none⟩ = some (.slice a1 n cap1) ∧ X'.frozen? ⟨T, 1, none⟩ = false := fun X' hg => by
          have h := (Chg.of_grownBy hg).heap hbA (fun h => HNE.out h)
          exact ⟨h, (blk_cell h 1).trans rfl, blk_free h 1⟩
        have hsz4 : (w9.alloc (.cells #[.string r.1, .int .u8 fb, .int .i64 0] 64)).drew.heap.size = w9.heap.size + 1 := by show (w9.alloc _).heap.size = _; simp
        have t2 : w9.cell? ⟨T, 1, none⟩ = some (.slice a1 n cap1) := (blk_cell hb 1).trans rfl
        have f2 : w9.frozen? ⟨T, 1, none⟩ = false := blk_free hb 1
        have tA : (w9.alloc (.cells #[.string r.1, .int .u8 fb, .int .i64 0] 64)).cell? ⟨T, 1, none⟩ = some (.slice a1 n cap1) := (blk_cell (Ext.heap ((Chg.refl _ _).alloc _) hb) 1).trans rfl
        have fA : (w9.alloc (.cells #[.string r.1, .int .u8 fb, .int .i64 0] 64)).frozen? ⟨T, 1, none⟩ = false := blk_free (Ext.heap ((Chg.refl _ _).alloc _) hb) 1
        have lA : (w9.alloc (.cells #[.string r.1, .int .u8 fb, .int .i64 0] 64)).cell? ⟨gr, i * 2, none⟩ = some (.string r.1) := Ext.cell ((Chg.refl _ _).alloc _) s5
        clear hb hnb2 hbA
        go_wp2_with fail
        · go_ret
          exact ⟨rfl, HE.out.trans F9⟩
        · have hro : r.1 ≠ otherS := fun e => by have h := ‹(r.1.toList == _) = false›; rw [e] at h; simp [otherS, ByteArray.toList_eq] at h
          go_region_law (refine step_append_lies _ (by rfl) _ _ 32 (by rfl) A 64 i0 _ 3 32 Try.underlying32 hinf hz0 hz1 hz2 rfl (by decide) _ _ _ (by rfl) hown4 ⟨w9.heap.size, 0, none⟩ 1 1 #[.string r.1, .int .u8 fb, .int .i64 0].toList (by rfl) rfl hnews (by simp [Value.oneCell']) (by decide) (by unfold maxLen; omega) (by omega) (by rw [hsz4]; omega) (w9.heap.size + 1) hsz4 ?_; intro g6 cap6 w7 hown6 hgrow6 hat6 hlt6; obtain ⟨U7, u7, g7⟩ := hlay _ hgrow6)
          all_goals (
            have hg6 : g6 ≠ T := by
              rcases hat6 with h | h
              · intro e; rw [e] at h; exact HNE.out h
              · omega
            have E7 : Ext w5 w7 := Ext.then (F9.trans eA) (Chg.of_grownBy hgrow6) (fun g h => by have h2 := (World.ownsRow.lt hown4 g h).1; have := HA5.out; omega)
            have E8 : Ext w5 (w7.setCell ⟨T, 1, none⟩ (.slice (some ⟨g6, 0, none⟩) (n + 1) cap6)) := Ext.then E7 (Chg.setCell (Chg.refl (fun q => q = T) w7) ⟨T, 1, none⟩ (.slice (some ⟨g6, 0, none⟩) (n + 1) cap6) (.inl rfl)) (fun g h => by have := HT.out; have := HA5.out; omega)
            have O8 := ownsRow_chg hown6 (Chg.setCell (Chg.refl (fun q => q = T) w7) ⟨T, 1, none⟩ (.slice (some ⟨g6, 0, none⟩) (n + 1) cap6) (.inl rfl)) (fun h => hg6 h)
            have U8 := blk_set U7 1 (.slice (some ⟨g6, 0, none⟩) (n + 1) cap6)
            have U8 : (w7.setCell ⟨T, 1, none⟩ (.slice (some ⟨g6, 0, none⟩) (n + 1) cap6)).heap[T]? = some (.cells #[.int .i64 0, .slice (some ⟨g6, 0, none⟩) (n + 1) cap6, .slice none 0 0, .slice none 0 0] 36 (0, 0)) := U8
            clear U7 u7 g7 hgrow6 hown6 hat6 hlt6 hlay hnews hown4 hsz4 f2 t2 eA tA fA lA E7 s5
            generalize (w7.setCell ⟨T, 1, none⟩ (.slice (some ⟨g6, 0, none⟩) (n + 1) cap6)) = W8 at *
            have H1 := Lib.hid U8
            have H2 := Lib.hid O8
            have H3 := Lib.hid E8
            have hn2 : (insOf p (L.take (i + 1))).length = n := by rw [hst.out, List.length_append, HN.out]; rfl
            have HN2 := Lib.hid hn2
            clear U8 O8 E8 hn2
            go_wp2_with fail
            go_roundw
            case rel => exact ⟨i + 1, n + 1, _, _, by omega, by rw [HN2.out], by go_num, H1.out, by rw [hst.out, ← List.cons_append, List.flatMap_append]; exact H2.out, (by simp only [Value.ownBlock]; intro e; simp at e; exact hg6 e), fun q hq => by
              rw [htk.out] at hq
              rcases List.mem_append.1 hq with hq | hq
              · exact HNO.out q hq
              · simp only [List.mem_singleton] at hq
                rw [hq]; exact hro, H3.out⟩
            case measure => simp [intOf]; omega)
    · obtain rfl : i = L.length := by omega
      have hHNO := HNO.out
      rw [List.take_length] at hown hHNO
      have hnn := HN.out
      rw [List.take_length] at hnn
      have HQ := Lib.hid (namP_rd HP.out hown hnn HTT.out (fun r hr => by have := HNM.out r hr; unfold maxLen; omega) (by omega))
      have hlaw := HLAW.out hHNO
      have u0 : ∀ X, Ext wr X → X.cell? ⟨T, 0, none⟩ = some (.int .i64 0) := fun X hX => (blk_cell (Ext.heap hX hb) 0).trans rfl
      have u1 : ∀ X, Ext wr X → X.cell? ⟨T, 1, none⟩ = some (.slice a1 n cap1) := fun X hX => (blk_cell (Ext.heap hX hb) 1).trans rfl
      have u2 : ∀ X, Ext wr X → X.cell? ⟨T, 2, none⟩ = some (.slice none 0 0) := fun X hX => (blk_cell (Ext.heap hX hb) 2).trans rfl
      have u3 : ∀ X, Ext wr X → X.cell? ⟨T, 3, none⟩ = some (.slice none 0 0) := fun X hX => (blk_cell (Ext.heap hX hb) 3).trans rfl
      have uu0 := u0 wr (Chg.refl _ _)
      have uu1 := u1 wr (Chg.refl _ _)
      have uu2 := u2 wr (Chg.refl _ _)
      have uu3 := u3 wr (Chg.refl _ _)
      have HO2 := Lib.hid (HOq.out (namP p tt L) _ wr (e0.trans rE) HQ.out)
      rw [hlaw] at HO2
      unfold RetTO at HO2
      simp only at HO2
      have b1 : (sp1 == sp1) = true := by simp
      have b2 : (sp2 == sp2) = true := by simp
      clear hown hb HFd HNM hnn hHNO hlaw
      go_wp2_with fail
      refine HO2.out.mono ?_
      rintro e w6 ⟨rfl, E6⟩
      go_wp2_with fail
      go_ret
      exact ⟨rfl, (e0.trans rE).trans E6⟩
end Go.Proofs.Ytcbdeoekehkbiaa
namespace Go.Proofs.Ytcbdeoekehkbiaa.rowTypesNames
open Go.ChangeShapes Go.WideShapes Go.ChangeAt Go.RowKit Go.ChangeMaps
set_option linter.unusedVariables false
theorem own : ownKnob Try.prog.godebug = none := by kernel_rfl
theorem laidOut : laidOutB Try.prog = true := by kernel_rfl
set_option maxHeartbeats 4000000 in
set_option maxRecDepth 100000 in
theorem lifted (os : Os) (started : os.Started) (H : Type) (enc : TypeId × Value → H) (F : Stop.Interp) :
    ReturnsInHanded {} Try.checked os 11 .any ((Rows.OpenSpec.upto Rows.typesNamesSpec).pre6 enc Try.prog Try.f11 Rows.typesNamesUptoRow.domain false) (((Rows.OpenSpec.upto Rows.typesNamesSpec).at F).post enc Try.prog Try.f11 false true false false) := by
  refine returnsInHanded_of_cond_sized (C := Try.checked) (s := Rows.OpenSpec.upto Rows.typesNamesSpec) (k := Rows.uptoSmall) rfl own started (by kernel_rfl) Try.func11
    (OpenSpec.witness (enc := enc) (C := Try.checked) (s := Rows.OpenSpec.upto Rows.typesNamesSpec) (k := Rows.uptoSmall) rfl false ⟨#[], #[.agg #[.int .i64 0, .slice none 0 0, .slice none 0 0, .slice none 0 0], .agg #[.int .u8 0, .int .i64 0, .string ⟨#[]⟩, .slice none 0 0], .int .u8 0], []⟩ 8 (by kernel_rfl) (by kernel_rfl) (by kernel_rfl)
      (x := ([.agg [.lit (.int .i64 0), .nil, .nil, .nil], .agg [.lit (.int .u8 0), .lit (.int .i64 0), .lit (.string []), .nil], .lit (.int .u8 0)], [], [])) (by kernel_rfl) rfl (by kernel_rfl)) ?_
  intro W base args ds gs before hval0 hW hcnd hk hsz0 _
  have hval : ∀ (j : Nat) t v, Try.f11.params[j]? = some t → args[j]? = some v → Value.okWide Try.prog W .any base t v := hval0
  have hsz : (DataW.weightsEach Try.prog (Try.f11.params.toList ++ Rows.typesNamesSpec.plain.varTypes Try.prog) (ds ++ gs)).all (· ≤ reachBytes) = true := hsz0
  have hW' := hW
  obtain ⟨p, q, hA0, hV, rfl, hfz, hnd⟩ := hW
  have hA : DataW.TrodAll enc Try.prog W 0 (fun _ => true) true Try.f11.params.toList args.toList ds p := hA0
  rw [Try.params11] at hA hval hsz
  obtain ⟨v0, vs0, d0, ds0, p0, q0, hargs, rfl, rfl, h0, r0⟩ := trodAll_cons hA
  obtain ⟨v1, vs1, d1, ds1, p1, q1, rfl, rfl, rfl, h1, r1⟩ := trodAll_cons r0
  obtain ⟨v2, vs2, d2, ds2, p2, q2, rfl, rfl, rfl, h2, r2⟩ := trodAll_cons r1
  obtain ⟨rfl, rfl, rfl⟩ := trodAll_nil r2
  obtain rfl : args = #[v0, v1, v2] := by cases args; simp_all
  obtain ⟨rfl, rfl⟩ := trodVars_none hV
  have k0 := h0
  have lt0 : ∀ x ∈ p0, x.block < W.heap.size := by obtain ⟨m, hm⟩ := k0; exact DataW.trod_lt m _ _ _ hm
  have l0 : Lite Try.prog 36 d0 := fun n hn => by simpa using List.all_eq_true.1 hsz n (DataW.weights_mem_each (j := 0) (t := 36) (d := d0) rfl rfl n hn)
  obtain ⟨pd0, cs0, rfl, hx0⟩ := pr_open (agg_of Try.underlying36 (hval 0 36 v0 rfl rfl)) h0 l0
  have k1 := h1
  have lt1 : ∀ x ∈ p1, x.block < W.heap.size := by obtain ⟨m, hm⟩ := k1; exact DataW.trod_lt m _ _ _ hm
  have l1 : Lite Try.prog 25 d1 := fun n hn => by simpa using List.all_eq_true.1 hsz n (DataW.weights_mem_each (j := 1) (t := 25) (d := d1) rfl rfl n hn)
  obtain ⟨pd1, cs1, rfl, hx1, hb1⟩ := exv_openB (agg_of Try.underlying25 (hval 1 25 v1 rfl rfl)) h1 l1
  have hbk1 : sE pd1 ≤ 1048576 := by have := bulk_mem (l := [d0, d1, d2]) (d := d1) (by simp); have hk2 : Rows.uptoBulkAll ([d0, d1, d2] ++ []) ≤ 1048576 := of_decide_eq_true hk; rw [List.append_nil] at hk2; omega
  obtain ⟨a2, rfl, rfl, rfl, w2⟩ := open_int Try.underlying48 (hval 2 48 v2 rfl rfl) h2
  clear hA0 hval0 hsz0
  refine (typesNames_any pd0 cs0 pd1 cs1 a2 W hx0 hx1 hbk1 (wf_u8 w2)).mono fun e W' ⟨he, ext⟩ => ?_
  subst he
  have bel := Ext.below ext
  exact ⟨_, rfl, _, _, _, [], _, [], hW', trodAll_mk1 (shut_bool Try.underlying4 _),
    (trodAll_cons_mk (Below.trod laidOut (by kernel_rfl) (of_decide_eq_true (by kernel_rfl)) k0 bel lt0) (trodAll_cons_mk (Below.trod laidOut (by kernel_rfl) (of_decide_eq_true (by kernel_rfl)) k1 bel lt1) (trodAll_cons_mk (shut_int Try.underlying48 w2) trodAll_mk0))), rfl, bel.frame _, fun h => by cases h⟩
theorem over : Rows.typesNamesUptoRow.holds Try.pinned (Rows.OpenSpec.upto Rows.typesNamesSpec) :=
  OpenClaim.holds_of_cond 11 Try.f11 rfl rfl rfl rfl rfl rfl rfl ⟨rfl, rfl, rfl, rfl, rfl⟩ rfl rfl rfl rfl rfl (by kernel_rfl) Try.func11 (by kernel_rfl)
    (of_decide_eq_true (by kernel_rfl)) (by unfold Func.isWrapper; first | (rw [if_pos (by decide +kernel)]; kernel_rfl) | (rw [if_neg (by decide +kernel)]; exact ⟨rfl, rfl⟩))
    (fun os started H enc _ F => lifted os started H enc F)
theorem proved : Rows.TypesNamesUptoSaid := over
#print axioms proved
end Go.Proofs.Ytcbdeoekehkbiaa.rowTypesNames



