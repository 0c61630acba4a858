/- LateMore answers true. -/
import Derived.Test.YtjdficgejjkaoaaTellsW
import Derived.Test.YtjdficgejjkaoaaLeastW
import Derived.Test.YtjdficgejjkaoaaMoreP
import Derived.Test.YtjdficgejjkaoaaRowF2
import Derived.Deep.Cut
import Derived.Deep.AppendLies
import Derived.Deep.RegionLaw
import Derived.Deep.RegionHeld3
namespace Go.Proofs.Ytjdficgejjkaoaa
open Go.RowKit
set_option linter.unusedVariables false
set_option linter.unusedSimpArgs false

/-- Flows that lie in memory, cell by cell. -/
theorem RdFlV.news {w : World} {lo : Nat} {t : Bool} {l : List FlD} {a : Option Addr} {n cap : Nat} (h : RdFlV w lo t l (.slice a n cap)) (hl : l ≠ []) : ∃ (b o : Nat) (ps : List (FlD × Value)), a = some ⟨b, o, none⟩ ∧ ps.map (·.1) = l ∧ (∀ p, p ∈ ps → FlFine p.1 ∧ RdExV w lo t p.1.body.args p.2) ∧
    ∀ j u, (ps.flatMap flP)[j]? = some u → w.cell? ((⟨b, o, none⟩ : Addr).add j) = some u := by
  obtain ⟨a', cap', e, _, _, _, hr, _⟩ := h
  simp only [Value.slice.injEq] at e
  obtain ⟨rfl, _, _⟩ := e
  have hpos : 0 < l.length := List.length_pos_iff.2 hl
  obtain ⟨_, _, _, _, b, o, ha, _⟩ := hr 0 _ (List.getElem?_eq_getElem hpos)
  refine ⟨b, o, ?_⟩
  have key : ∀ (m : List FlD) (i0 : Nat), (∀ i x, m[i]? = some x → l[i0 + i]? = some x) → ∃ ps : List (FlD × Value), ps.map (·.1) = m ∧ (∀ p, p ∈ ps → FlFine p.1 ∧ RdExV w lo t p.1.body.args p.2) ∧ ∀ j u, (ps.flatMap flP)[j]? = some u → w.cell? ⟨b, o + i0 * 8 + j, none⟩ = some u := by
    intro m
    induction m with
    | nil => intro _ _; exact ⟨[], rfl, fun p hp => by simp at hp, fun j u h => by simp at h⟩
    | cons y r ih =>
      intro i0 hm
      obtain ⟨ps, h1, h2, h3⟩ := ih (i0 + 1) (fun i x hx => by have := hm (i + 1) x (by simpa using hx); rw [← this]; congr 1; omega)
      obtain ⟨k1, k2, k3, k4, b', o', ha', _, _, c0, c1, c2, c3, k5, k6, k7, v, hv, c4, c5, c6, c7⟩ := hr i0 y (by have := hm 0 y (by simp); simpa using this)
      rw [ha] at ha'
      simp only [Option.some.injEq, Addr.mk.injEq, and_true] at ha'
      obtain ⟨rfl, rfl⟩ := ha'
      refine ⟨(y, v) :: ps, by simp [h1], fun p hp => ?_, fun j u hj => ?_⟩
      · rcases List.mem_cons.1 hp with rfl | hp
        · exact ⟨⟨k1, k2, k3, k4, k5, k6, k7⟩, hv⟩
        · exact h2 p hp
      · rw [List.flatMap_cons] at hj
        by_cases hj8 : j < 8
        · rw [List.getElem?_append_left (by rw [flP_len]; exact hj8)] at hj
          match j, hj8 with
          | 0, _ => simp [flP, flC] at hj; rw [← hj, Nat.add_zero]; exact c0
          | 1, _ => simp [flP, flC] at hj; rw [← hj]; exact c1
          | 2, _ => simp [flP, flC] at hj; rw [← hj]; exact c2
          | 3, _ => simp [flP, flC] at hj; rw [← hj]; exact c3
          | 4, _ => simp [flP, flC] at hj; rw [← hj]; exact c4
          | 5, _ => simp [flP, flC] at hj; rw [← hj]; exact c5
          | 6, _ => simp [flP, flC] at hj; rw [← hj]; exact c6
          | 7, _ => simp [flP, flC] at hj; rw [← hj]; exact c7
          | n + 8, h => omega
        · rw [List.getElem?_append_right (by rw [flP_len]; omega), flP_len] at hj
          have := h3 _ _ hj
          rw [← this]
          congr 2
          omega
  obtain ⟨ps, h1, h2, h3⟩ := key l 0 (fun i x hx => by rw [Nat.zero_add]; exact hx)
  refine ⟨ps, ha, h1, h2, fun j u hj => ?_⟩
  have e : (⟨b, o, none⟩ : Addr).add j = ⟨b, o + j, none⟩ := by
    unfold Addr.add; split
    · rename_i h; subst h; rfl
    · simp
  rw [e]
  have := h3 j u hj
  simpa using this
theorem flP_total (ps : List (FlD × Value)) : (ps.flatMap flP).length = ps.length * 8 := by
  induction ps with
  | nil => rfl
  | cons q r ih => rw [List.flatMap_cons, List.length_append, ih, flP_len, List.length_cons]; omega
theorem flP_cells {w : World} {lo : Nat} {t : Bool} {ps : List (FlD × Value)} (h : ∀ p, p ∈ ps → FlFine p.1 ∧ RdExV w lo t p.1.body.args p.2) : ∀ u ∈ ps.flatMap flP, u.oneCell' = true := by
  intro u hu
  obtain ⟨p, hp, hu⟩ := List.mem_flatMap.1 hu
  obtain ⟨_, hv⟩ := h p hp
  obtain ⟨a, c, e, _⟩ := hv.form
  simp only [flP, flC, e, List.mem_cons, List.not_mem_nil, or_false] at hu
  rcases hu with rfl | rfl | rfl | rfl | rfl | rfl | rfl | rfl <;> rfl
theorem fine_more {s : Int} {nm : ByteArray} (hs : isI64 s) (hn : nm.size ≤ maxLen) : FlFine (moreF s nm) := by
  refine ⟨by unfold moreF sMore maxLen; simp [ByteArray.size], by unfold moreF isU8; simp, hs, by unfold moreF isI64; simp, by simp [moreF, nmE, Ex.op, isU8], by simp [moreF, nmE, Ex.n, isI64], hn⟩
set_option maxRecDepth 100000 in
set_option maxHeartbeats 8000000 in
theorem lateMore_any (p : PrD) (cs : Array Value) (av ov : Int) (w : World) (h : RdPr w 0 false p cs) (ha : isU8 av) (ho : isU8 ov) : Calls Try.prog 6 #[.agg cs, .int .u8 av, .int .u8 ov] w (RetT w) := by
  have HP := Lib.hid h
  obtain ⟨ai, ci, af, cf, ao, co, rfl⟩ := pr_form h
  have HFl := Lib.hid (pr_fl h)
  unfold isU8 at ha ho
  obtain ⟨ha0, ha1⟩ := ha
  obtain ⟨ho0, ho1⟩ := ho
  clear h
  have HLV := Lib.hid lives_any
  have e0 := (Chg.refl (fun _ => False) w).alloc (.cells #[.int .i64 p.st, .slice ai p.ins.length ci, .slice af p.flows.length cf, .slice ao p.outs.length co] 26)
  have b0 := heap_alloc_new w (.cells #[.int .i64 p.st, .slice ai p.ins.length ci, .slice af p.flows.length cf, .slice ao p.outs.length co] 26)
  go_enter Try.func6, Try.ntmps6
  go_wp2_with fail
  generalize (w.alloc (.cells #[.int .i64 p.st, .slice ai p.ins.length ci, .slice af p.flows.length cf, .slice ao p.outs.length co] 26)) = W0 at *
  refine (great14_any p _ _ (HP.out.ext e0)).mono ?_
  rintro e w1 ⟨gb, rfl, E1⟩
  have F1 := e0.trans E1
  have b1 := Ext.heap E1 b0
  clear b0 E1 e0
  have y0 : ∀ X, Ext w1 X → X.cell? ⟨w.heap.size, 0, none⟩ = some (.int .i64 p.st) := fun X hX => (blk_cell (Ext.heap hX b1) 0).trans rfl
  have y1 : ∀ X, Ext w1 X → X.cell? ⟨w.heap.size, 1, none⟩ = some (.slice ai p.ins.length ci) := fun X hX => (blk_cell (Ext.heap hX b1) 1).trans rfl
  have y2 : ∀ X, Ext w1 X → X.cell? ⟨w.heap.size, 2, none⟩ = some (.slice af p.flows.length cf) := fun X hX => (blk_cell (Ext.heap hX b1) 2).trans rfl
  have y3 : ∀ X, Ext w1 X → X.cell? ⟨w.heap.size, 3, none⟩ = some (.slice ao p.outs.length co) := fun X hX => (blk_cell (Ext.heap hX b1) 3).trans rfl
  have er : Ext w1 w1 := Chg.refl _ _
  clear b1
  cases gb
  case true =>
    go_wp2_with fail
    refine (HLV.out _).mono ?_
    rintro e w3 ⟨rfl, E3⟩
    go_wp2_with fail
    go_ret
    exact ⟨rfl, F1.trans E3⟩
  by_cases hst : p.st < 1
  case pos =>
    go_wp2_with fail
    refine (HLV.out _).mono ?_
    rintro e w3 ⟨rfl, E3⟩
    go_wp2_with fail
    go_ret
    exact ⟨rfl, F1.trans E3⟩
  have HOF := Lib.hid (lateOf_any p _ w1 (HP.out.ext F1))
  go_wp2_with fail
  refine HOF.out.mono ?_
  rintro e w2 ⟨l, v, n, hla, rfl, hv, E2⟩
  have F2 := F1.trans E2
  clear HOF
  replace y0 := fun X (hX : Ext w2 X) => y0 X (E2.trans hX)
  replace y1 := fun X (hX : Ext w2 X) => y1 X (E2.trans hX)
  replace y2 := fun X (hX : Ext w2 X) => y2 X (E2.trans hX)
  replace y3 := fun X (hX : Ext w2 X) => y3 X (E2.trans hX)
  have er2 : Ext w2 w2 := Chg.refl _ _
  by_cases hn : n = 0
  case neg =>
    have bn : (n != 0) = true := by simp [hn]
    clear hv hla
    go_wp2_with fail
    refine (HLV.out _).mono ?_
    rintro e w3 ⟨rfl, E3⟩
    go_wp2_with fail
    go_ret
    exact ⟨rfl, F2.trans E3⟩
  subst hn
  obtain ⟨g, hvl, hg, hgb⟩ : LsV w2 w1.heap.size l v := by
    rcases hv with ⟨_, h⟩ | ⟨h, _⟩
    · exact h
    · exact absurd rfl h
  obtain ⟨hn0, hls⟩ := lateA_yes hla
  rw [hls.1.1] at hvl
  subst hvl
  have HLS := Lib.hid hls
  have HN0 := Lib.hid hn0
  have HPR := Lib.hid (names_prog hn0)
  have hlen := hls.1.1
  have hfl128 := (prog_ok HPR.out).2.1
  have hst8 := (prog_ok HPR.out).1
  by_cases hf0 : p.flows = []
  case pos =>
    have bz : (((p.flows.length : Nat) : Int) == 0) = true := by simp [hf0]
    clear hv hla hls hgb hlen
    go_wp2_with fail
    refine (HLV.out _).mono ?_
    rintro e w3 ⟨rfl, E3⟩
    go_wp2_with fail
    go_ret
    exact ⟨rfl, F2.trans E3⟩
  have hpos : 0 < p.flows.length := List.length_pos_iff.2 hf0
  have bz : (((p.flows.length : Nat) : Int) == 0) = false := by simp; exact hf0
  have HGB := Lib.hid hgb
  have HLEN := Lib.hid hlen
  have HRL := Lib.hid (fun (X : World) (hX : Ext w2 X) => ints_rd (Ext.heap hX HGB.out) HLS.out.1.2.1 (by omega))
  clear hv hla hls hn0 hgb hlen hg
  obtain ⟨b, o, ps, rfl, hps, hfine, hnews⟩ := HFl.out.news hf0
  have hkl : (ov % (p.flows.length : Int)).toNat < p.flows.length := by
    have := Int.emod_lt_of_pos ov (show (0 : Int) < p.flows.length by omega)
    have := Int.emod_nonneg ov (show (p.flows.length : Int) ≠ 0 by omega)
    omega
  obtain ⟨k, hk⟩ : ∃ k : Nat, ov % (p.flows.length : Int) = (k : Int) := ⟨(ov % (p.flows.length : Int)).toNat, by
    have := Int.emod_nonneg ov (show (p.flows.length : Int) ≠ 0 by omega)
    omega⟩
  rw [hk, Int.toNat_natCast] at hkl
  have hx := List.getElem?_eq_getElem hkl
  have HX := Lib.hid hx
  obtain ⟨hnm, _, hxst, _, b', o', hbo, _, _, c0, _, c2, _⟩ := (HFl.out).at hx
  simp only [Option.some.injEq, Addr.mk.injEq, and_true] at hbo
  obtain ⟨rfl, rfl⟩ := hbo
  generalize p.flows[k] = x at *
  have hkI : (k : Int) < (p.flows.length : Int) := by omega
  have hk0 : (0 : Int) ≤ (k : Int) := by omega
  have hmk : ov.tmod (p.flows.length : Int) = (k : Int) := by rw [Int.tmod_eq_emod_of_nonneg ho0, hk]
  have hs0 : 0 ≤ av % p.st := Int.emod_nonneg _ (by omega)
  have hs1 : av % p.st < p.st := Int.emod_lt_of_pos _ (by omega)
  have hms : av.tmod p.st = av % p.st := Int.tmod_eq_emod_of_nonneg ha0
  have hb0 : (p.st == 0) = false := by simp; omega
  have hwa : IntKind.i64.wrap av = av := by rw [IntKind.wrap_i64] <;> omega
  have hwo : IntKind.i64.wrap ov = ov := by rw [IntKind.wrap_i64] <;> omega
  have hb1 : ¬ p.st = 0 := by omega
  have hb2 : ((p.flows.length : Int) == 0) = false := bz
  have hb3 : ¬ (p.flows.length : Int) = 0 := by omega
  have hb4 : ¬ p.flows.length = 0 := by omega
  have hsi : isI64 p.st := by obtain ⟨_, _, _, _, h, _⟩ := HP.out; exact h
  unfold isI64 at hsi
  generalize hrr : av % p.st = rr at *
  obtain ⟨s, hs⟩ : ∃ s : Int, 1 + rr = s := ⟨_, rfl⟩
  have hws : IntKind.i64.wrap (1 + rr) = s := by rw [IntKind.wrap_i64] <;> omega
  have hsr : isI64 s := by unfold isI64; omega
  have n2 : ∀ X, Ext w2 X → X.cell? ⟨b, o + k * 8, none⟩ = some (.string x.name) := fun X hX => Ext.cell (F2.trans hX) c0
  have t2 : ∀ X, Ext w2 X → X.cell? ⟨b, o + k * 8 + 2, none⟩ = some (.int .i64 x.st) := fun X hX => Ext.cell (F2.trans hX) c2
  have HNEWS := Lib.hid (fun (X : World) (hX : Ext w2 X) => fun j u (hj : (ps.flatMap flP)[j]? = some u) => Ext.cell (F2.trans hX) (hnews j u hj))
  have HFINE := Lib.hid hfine
  have HPS := Lib.hid hps
  have HCELLS := Lib.hid (flP_cells hfine)
  have HHX := Lib.hid (find_flM (names_okN HN0.out) HX.out)
  have HHK := Lib.hid hk
  have HHS := Lib.hid hs
  have hpl : ps.length = p.flows.length := by rw [← hps, List.length_map]
  have HPL := Lib.hid hpl
  have hnl : (ps.flatMap flP).length = p.flows.length * 8 := by rw [flP_total, hpl]
  clear hx c0 c2 hnews hfine hps hpl hs
  obtain ⟨i0, hinf, hz0, hz1, hz2⟩ := info_parts infoFl
  go_wp2_with fail
  generalize hV2 : w2.alloc _ = V2
  obtain ⟨sV2, bV2, eV2⟩ := chain1 hV2
  clear hV2
  generalize hT : w2.heap.size = T at *
  have HT := Lib.hid hT
  clear hT
  have HBV := Lib.hid bV2
  have HSV := Lib.hid sV2
  clear bV2 sV2
  have G2 : Ext w2 V2.drew := eV2.drew
  have G1 : Ext V2 V2.drew := (Chg.refl _ _).drew
  go_region_held3 (fun X => Ext w2 X) (first | assumption | exact Chg.alloc (by assumption) _)
    (first
      | (refine step_append_lies _ (by rfl) _ _ 23 (by rfl) V2.heap.size 55 i0 _ 8 96 Try.underlying23 hinf hz0 hz1 hz2 rfl (by decide) (.slice none 0 0) 0 [] (by rfl) (World.ownsRow_nil _ _ _ _) ⟨b, o, none⟩ p.flows.length cf (ps.flatMap flP) (by rfl) hnl (HNEWS.out _ (by assumption)) HCELLS.out hpos (by unfold maxLen; omega) (by omega) (Nat.le_of_eq rfl) _ rfl ?_; intro g4 cap4 w4 hown4 hgrow4 hat4 hlt4; rw [Nat.zero_add, List.nil_append] at hown4; rw [Nat.zero_add]; have G4a : Ext V2 w4 := Ext.then G1 (Chg.of_grownBy hgrow4) (fun q hq => by cases hq); have G4 : Ext w2 w4 := eV2.trans G4a; clear hgrow4 hat4)
      | (go_at_call 22; refine (name14_any _ _).mono ?_; rintro e w5 ⟨rfl, E5⟩; have G5 := G4.trans E5; have G5a := G4a.trans E5; have hown5 := ownsRow_ext hown4 E5)
      | (refine step_append_lies _ (by rfl) _ _ 23 (by rfl) V2.heap.size 55 i0 _ 8 96 Try.underlying23 hinf hz0 hz1 hz2 rfl (by decide) (.slice (some ⟨g4, 0, none⟩) p.flows.length cap4) p.flows.length (ps.flatMap flP) (by rfl) (ownsRow_ext hown5 ((Chg.refl _ _).alloc _)) ⟨w5.heap.size, 0, none⟩ 1 1 [.string ⟨#[109, 111, 114, 101]⟩, .int .u8 1, .int .i64 s, .int .i64 0, .int .u8 3, .int .i64 0, .string x.name, .slice none 0 0] (by rfl) rfl (World.news_of_block (heap_alloc_new w5 _)) (by simp [Value.oneCell']) (by decide) (by unfold maxLen; omega) (by omega) (by have := G5a.size; simp; omega) _ rfl ?_; intro g6 cap6 w7 hown6 hgrow6 hat6 hlt6;
         have G7a : Ext V2 w7 := Ext.then (G5a.alloc _) (Chg.of_grownBy hgrow6) (fun q hq => (World.ownsRow.lt hown5 q hq).1);
         have U7 := Ext.heap G7a HBV.out; have u7 := (blk_cell U7 2).trans rfl; have f7 := blk_free U7 2;
         have G8 : Ext w2 (w7.setCell ⟨T, 2, none⟩ (.slice (some ⟨g6, 0, none⟩) (p.flows.length + 1) cap6)) := Ext.then (eV2.trans G7a) (Chg.setCell (Chg.refl (fun q => q = T) w7) ⟨T, 2, none⟩ (.slice (some ⟨g6, 0, none⟩) (p.flows.length + 1) cap6) (.inl rfl)) (fun q hq => by have := HT.out; omega);
         have G7 : Ext w2 w7 := eV2.trans G7a; clear hgrow6))
  have hT2 : T < V2.heap.size := by have := HSV.out; omega
  have hg6 : V2.heap.size ≤ g6 := (World.ownsRow.lt hown6 g6 rfl).1
  have U8 := blk_set U7 2 (.slice (some ⟨g6, 0, none⟩) (p.flows.length + 1) cap6)
  have U8 : (w7.setCell ⟨T, 2, none⟩ (.slice (some ⟨g6, 0, none⟩) (p.flows.length + 1) cap6)).heap[T]? = some (.cells #[.int .i64 p.st, .slice ai p.ins.length ci, .slice (some ⟨g6, 0, none⟩) (p.flows.length + 1) cap6, .slice ao p.outs.length co] 26 (0, 0)) := U8
  have hown8 := ownsRow_chg hown6 (Chg.setCell (Chg.refl (fun q => q = T) w7) ⟨T, 2, none⟩ (.slice (some ⟨g6, 0, none⟩) (p.flows.length + 1) cap6) (.inl rfl)) (fun h => by omega)
  clear U7 u7 f7 hown6 hat6 hlt6 hown5 G7 G7a G5 G5a E5 hown4 hlt4 G4 G4a G1 G2
  generalize (w7.setCell ⟨T, 2, none⟩ (.slice (some ⟨g6, 0, none⟩) (p.flows.length + 1) cap6)) = W8 at *
  have hxn : (moreF s x.name).st = s := rfl
  obtain ⟨q, hq⟩ : ∃ q, q = moreP p (moreF s x.name) := ⟨_, rfl⟩
  have HQR := Lib.hid (fun (X : World) (hX : Ext W8 X) => (by
    have hfv := FlV.snoc (w0 := w2) HPS.out (fun q hq => ⟨(HFINE.out q hq).1, (HFINE.out q hq).2.ext F2⟩) (fine_more hsr hnm) (rd_none w2 : RdExV w2 0 false (moreF s x.name).body.args (.slice none 0 0)) hown8
    have hrd := (hfv.rd G8 (by unfold fitsR; rw [List.length_append]; simp; omega)).ext hX
    exact hrd : RdFlV X 0 false (p.flows ++ [moreF s x.name]) (.slice (some ⟨g6, 0, none⟩) (p.flows.length + 1) cap6)))
  have HQ := Lib.hid (fun (X : World) (hX : Ext W8 X) => (by
    obtain ⟨_, _, _, eq, h1, h2, h3, h4⟩ := HP.out
    simp only [Array.mk.injEq, List.cons.injEq, and_true, true_and] at eq
    obtain ⟨rfl, rfl, rfl⟩ := eq
    rw [hq]
    have E := F2.trans (G8.trans hX)
    exact ⟨_, _, _, rfl, h1, h2.ext E, HQR.out X hX, h4.ext E⟩ : RdPr X 0 false q #[.int .i64 p.st, .slice ai p.ins.length ci, .slice (some ⟨g6, 0, none⟩) (p.flows.length + 1) cap6, .slice ao p.outs.length co]))
  have z0 : ∀ X, Ext W8 X → X.cell? ⟨T, 0, none⟩ = some (.int .i64 p.st) := fun X hX => (blk_cell (Ext.heap hX U8) 0).trans rfl
  have z1 : ∀ X, Ext W8 X → X.cell? ⟨T, 1, none⟩ = some (.slice ai p.ins.length ci) := fun X hX => (blk_cell (Ext.heap hX U8) 1).trans rfl
  have z2 : ∀ X, Ext W8 X → X.cell? ⟨T, 2, none⟩ = some (.slice (some ⟨g6, 0, none⟩) (p.flows.length + 1) cap6) := fun X hX => (blk_cell (Ext.heap hX U8) 2).trans rfl
  have z3 : ∀ X, Ext W8 X → X.cell? ⟨T, 3, none⟩ = some (.slice ao p.outs.length co) := fun X hX => (blk_cell (Ext.heap hX U8) 3).trans rfl
  have y2' := fun X (hX : Ext W8 X) => y2 X (G8.trans hX)
  have t2' := fun X (hX : Ext W8 X) => t2 X (G8.trans hX)
  have HS2 := Lib.hid (fun (X : World) (hX : Ext W8 X) => (by
    have hxx : (p.flows ++ [moreF s x.name])[p.flows.length]? = some (moreF s x.name) := by simp
    obtain ⟨_, _, _, _, b', o', hbo, _, _, _, _, c2, _⟩ := (HQR.out X hX).at hxx
    simp only [Option.some.injEq, Addr.mk.injEq, and_true] at hbo
    obtain ⟨rfl, rfl⟩ := hbo
    rw [Nat.zero_add] at c2
    exact c2 : X.cell? ⟨g6, p.flows.length * 8 + 2, none⟩ = some (.int .i64 s)))
  clear y0 y1 y2 y3 n2 t2 U8 hown8
  have er8 : Ext W8 W8 := Chg.refl _ _
  have F8 := F2.trans G8
  have HOQ := Lib.hid (lateOf_any q _ W8 (HQ.out _ er8))
  have HC := Lib.hid (fun (X : World) (hX : Ext W8 X) => nCheck_any q _ X (HQ.out _ hX))
  unfold RetE at HC
  go_wp2_with fail
  refine HOQ.out.mono ?_
  rintro e w9 ⟨m, v, nf, hlq, rfl, hvq, E9⟩
  clear HOQ
  by_cases hnf : nf = 0
  case neg =>
    have bn : (nf != 0) = true := by simp [hnf]
    obtain ⟨_, hc⟩ := lateA_no hlq hnf
    clear hlq hvq hnf
    rcases hc with ⟨hc1, rfl⟩ | ⟨hc1, hc2⟩
    · rw [hc1] at HC
      go_wp2_with fail
      refine (HC.out _ E9).mono ?_
      rintro e w3 ⟨rfl, E3'⟩
      have E3 := E9.trans E3'
      go_wp2_with fail
      refine (HLV.out _).mono ?_
      rintro e w5 ⟨rfl, E5⟩
      go_wp2_with fail
      go_ret
      exact ⟨rfl, F8.trans (E3.trans E5)⟩
    · rw [← hc2] at HC
      clear hc1 hc2
      go_wp2_with fail
      refine (HC.out _ E9).mono ?_
      rintro e w3 ⟨rfl, E3'⟩
      have E3 := E9.trans E3'
      go_wp2_with fail
      refine (HLV.out _).mono ?_
      rintro e w5 ⟨rfl, E5⟩
      go_wp2_with fail
      go_ret
      exact ⟨rfl, F8.trans (E3.trans E5)⟩
  subst hnf
  obtain ⟨gm, hvm, hgm0, hgm⟩ : LsV w9 W8.heap.size m v := by
    rcases hvq with ⟨_, h⟩ | ⟨h, _⟩
    · exact h
    · exact absurd rfl h
  obtain ⟨_, hlm⟩ := lateA_yes hlq
  subst hq
  have hml := more_law HN0.out HLS.out HX.out hlm
  have hmn : m.length = p.flows.length + 1 := by rw [hml, List.length_append, HLEN.out]; rfl
  rw [hmn] at hvm
  subst hvm
  have hlk := List.getElem?_eq_getElem (show k < l.length by have := HLEN.out; omega)
  have hgk : l.getD k 0 = l[k]'(by have := HLEN.out; omega) := by rw [List.getD_eq_getElem?_getD, hlk]; rfl
  have hlr := HLS.out.1.2.1 _ (List.getElem_mem (show k < l.length by have := HLEN.out; omega))
  rw [hgk] at hml
  generalize l[k]'(by have := HLEN.out; omega) = u at *
  have HML := Lib.hid hml
  have HGM := Lib.hid hgm
  have HLK := Lib.hid hlk
  have HLE := Lib.hid (fun (X : World) (hX : Ext W8 X) => Ext.heap (G8.trans hX) HGB.out)
  have hwl : IntKind.i64.wrap ((p.flows.length : Int) + 1) = ((p.flows.length + 1 : Nat) : Int) := by rw [IntKind.wrap_i64] <;> omega
  have hnn : (p.flows.length : Int) < ((p.flows.length + 1 : Nat) : Int) := by omega
  have hnn0 : (0 : Int) ≤ (p.flows.length : Int) := by omega
  clear hlq hvq hlm hml hgm hlk hgk HC hgm0 hmn
  have hnn2 : (p.flows.length : Int) < (p.flows.length : Int) + 1 := by omega
  go_wp2_with fail
  go_loopw [12] (fun iv wr => ∃ i : Nat, i ≤ p.flows.length ∧ iv = .int .i64 i ∧ Ext w9 wr) (fun iv _ => p.flows.length - (intOf iv).toNat)
  case atStart => exact ⟨0, Nat.zero_le _, rfl, Chg.refl _ _⟩
  case round =>
    obtain ⟨i, hi, rfl, rE⟩ := hrel
    have RE := E9.trans rE
    have hbm := Ext.heap rE HGM.out
    have hbl := HLE.out _ RE
    by_cases hlt : i < p.flows.length
    · have hil : i < l.length := by have := HLEN.out; omega
      have hx := List.getElem?_eq_getElem hil
      have hii : (i : Int) < (p.flows.length : Int) := by omega
      have hi0 : (0 : Int) ≤ (i : Int) := by omega
      have hii2 : (i : Int) < ((p.flows.length + 1 : Nat) : Int) := by omega
      have hii3 : (i : Int) < (p.flows.length : Int) + 1 := by omega
      have kl : wr.cell? ⟨g, i, none⟩ = some (.int .i64 l[i]) := (blk_cell hbl i).trans (by simp [hil])
      have km : wr.cell? ⟨gm, i, none⟩ = some (.int .i64 l[i]) := (blk_cell hbm i).trans (by rw [HML.out]; simp [List.getElem?_append_left, hil])
      generalize l[i] = ui at *
      clear hx hbm hbl
      go_wp2_with fail
      go_region
      go_wp2_with fail
      go_roundw
      case rel => exact ⟨i + 1, by omega, by go_num, rE.drew⟩
      case measure => simp [intOf]; omega
    · obtain rfl : i = p.flows.length := by omega
      have kl : ∀ X, Ext wr X → X.cell? ⟨g, k, none⟩ = some (.int .i64 u) := fun X hX => (blk_cell (Ext.heap hX hbl) k).trans (by simp [HLK.out])
      have km : ∀ X, Ext wr X → X.cell? ⟨gm, p.flows.length, none⟩ = some (.int .i64 (u + farP s x.st)) := fun X hX => (blk_cell (Ext.heap hX hbm) _).trans (by rw [HML.out]; simp [← HLEN.out])
      have v2 : ∀ X, Ext wr X → X.cell? ⟨T, 2, none⟩ = some (.slice (some ⟨g6, 0, none⟩) (p.flows.length + 1) cap6) := fun X hX => z2 X (RE.trans hX)
      have v3 : ∀ X, Ext wr X → X.cell? ⟨w.heap.size, 2, none⟩ = some (.slice (some ⟨b, o, none⟩) p.flows.length cf) := fun X hX => y2' X (RE.trans hX)
      have v4 : ∀ X, Ext wr X → X.cell? ⟨b, o + k * 8 + 2, none⟩ = some (.int .i64 x.st) := fun X hX => t2' X (RE.trans hX)
      have v5 : ∀ X, Ext wr X → X.cell? ⟨g6, p.flows.length * 8 + 2, none⟩ = some (.int .i64 s) := fun X hX => HS2.out X (RE.trans hX)
      have FE := F8.trans RE
      have ew : Ext wr wr := Chg.refl _ _
      have ewd : Ext wr wr.drew := (Chg.refl _ _).drew
      have ewdd : Ext wr wr.drew.drew := ewd.drew
      clear z0 z1 z2 z3 y2' t2' hbm hbl
      have hwu0 : IntKind.i64.wrap u = u := by rw [IntKind.wrap_i64] <;> omega
      have hwu1 : IntKind.i64.wrap (u + 1) = u + 1 := by rw [IntKind.wrap_i64] <;> omega
      by_cases hfar : s = x.st
      · have bf : (s != x.st) = false := by simp [hfar]
        have hf : farP s x.st = 0 := by unfold farP; rw [if_pos hfar]
        rw [hf, Int.add_zero] at km
        clear hf hfar
        go_wp2_with fail
        go_region_held3 (fun X => Ext wr X) (first | assumption)
          (fail)
        go_wp2_with fail
        go_region_held3 (fun X => Ext wr X) (first | assumption)
          (first | (go_at_call 10; refine (HLV.out _).mono ?_; rintro e w5 ⟨rfl, E5⟩; have G5 : Ext wr w5 := ewdd.trans E5))
        go_wp2_with fail
        go_ret
        exact ⟨rfl, FE.trans G5⟩
      · have bf : (s != x.st) = true := by simp [hfar]
        have hf : farP s x.st = 1 := by unfold farP; rw [if_neg hfar]
        rw [hf] at km
        clear hf hfar
        go_wp2_with fail
        go_region_held3 (fun X => Ext wr X) (first | assumption)
          (fail)
        go_wp2_with fail
        go_region_held3 (fun X => Ext wr X) (first | assumption)
          (first | (go_at_call 10; refine (HLV.out _).mono ?_; rintro e w5 ⟨rfl, E5⟩; have G5 : Ext wr w5 := ewdd.trans E5))
        go_wp2_with fail
        go_ret
        exact ⟨rfl, FE.trans G5⟩
end Go.Proofs.Ytjdficgejjkaoaa
