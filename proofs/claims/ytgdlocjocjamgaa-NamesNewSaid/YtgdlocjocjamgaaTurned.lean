/- short and turned: are all names in it short; with an end behind each name. -/
import Derived.Test.YtgdlocjocjamgaaNewP
import Derived.Test.YtgdlocjocjamgaaExOwn
import Derived.Deep.Cut
namespace Go.Proofs.Ytgdlocjocjamgaa
open Go.RowKit
set_option linter.unusedVariables false
set_option linter.unusedSimpArgs false

/-- short's answer. -/
def EShort (x : Ex) : Prop := ∀ (v : Value) (w : World), RdExV w 0 false x.args v → Calls Try.prog 19 #[.agg #[.int .u8 x.op, .int .i64 x.n, .string x.name, v]] w (RetV (shortE x) w)
theorem shortL_false {l : List Ex} {k : Nat} {x : Ex} (hx : l[k]? = some x) (h : shortE x = false) : shortL l = false := by
  induction l generalizing k with
  | nil => simp at hx
  | cons y r ih =>
    cases k with
    | zero =>
      simp only [List.getElem?_cons_zero, Option.some.injEq] at hx
      subst hx
      simp [shortL, h]
    | succ k => simp [shortL, ih (k := k) (by simpa using hx)]
theorem shortL_true {l : List Ex} (h : ∀ (k : Nat) (x : Ex), l[k]? = some x → shortE x = true) : shortL l = true := by
  induction l with
  | nil => rfl
  | cons y r ih =>
    simp [shortL, h 0 y rfl, ih (fun k x hx => h (k + 1) x (by simpa using hx))]
theorem shortL_mem {l : List Ex} (h : shortL l = true) {x : Ex} (hx : x ∈ l) : shortE x = true := by
  induction l with
  | nil => simp at hx
  | cons y r ih =>
    simp only [shortL, Bool.and_eq_true] at h
    rcases List.mem_cons.1 hx with rfl | hx
    · exact h.1
    · exact ih h.2 hx
set_option maxHeartbeats 1000000 in
theorem short_any : ∀ x, EShort x := by
  refine Ex.ind fun op n nm args ih => ?_
  intro v w hv
  simp only [Ex.op, Ex.n, Ex.name, Ex.args] at *
  obtain ⟨a, cap, rfl, hrest⟩ := hv
  have hv : RdExV w 0 false args (.slice a args.length cap) := ⟨a, cap, rfl, hrest⟩
  obtain ⟨hf, hl, hm, _⟩ := hrest
  unfold fitsR at hf
  have hn : args.length ≤ 9000000000000000000 := by omega
  have e0 := (Chg.refl (fun _ => False) w).alloc (.cells #[.int .u8 op, .int .i64 n, .string nm, .slice a args.length cap] 43)
  have bX := heap_alloc_new w (.cells #[.int .u8 op, .int .i64 n, .string nm, .slice a args.length cap] 43)
  go_enter Try.func19, Try.ntmps19
  go_wp2_with fail
  generalize (w.alloc (.cells #[.int .u8 op, .int .i64 n, .string nm, .slice a args.length cap] 43)) = W0 at *
  have x2 : ∀ X, Ext W0 X → X.cell? ⟨w.heap.size, 2, none⟩ = some (.string nm) := fun X hX => (blk_cell (Ext.heap hX bX) 2).trans rfl
  have x3 : ∀ X, Ext W0 X → X.cell? ⟨w.heap.size, 3, none⟩ = some (.slice a args.length cap) := fun X hX => (blk_cell (Ext.heap hX bX) 3).trans rfl
  have er : Ext W0 W0 := Chg.refl _ _
  go_loopw [3] (fun i wr => ∃ k : Nat, k ≤ args.length ∧ i = .int .i64 k ∧ (∀ j x, j < k → args[j]? = some x → shortE x = true) ∧ Ext W0 wr) (fun i _ => args.length - (intOf i).toNat)
  case atStart => exact ⟨0, Nat.zero_le _, rfl, fun j x hj => absurd hj (Nat.not_lt_zero _), er⟩
  case round =>
    obtain ⟨k, hk, rfl, hall, hE⟩ := hrel
    have HALL := Lib.hid hall
    clear hall
    by_cases hlt : k < args.length
    · have hx := List.getElem?_eq_getElem hlt
      have hi := ih _ (List.getElem_mem hlt)
      obtain ⟨b, o, v, rfl, _, hb, c0, c1, c2, c3, _, _, _, hvx⟩ := (hv.ext (e0.trans hE)).get hx
      have q1 : (k : Int) < (args.length : Int) := by omega
      generalize args[k] = x at *
      have hc := hi v wr hvx
      cases hsx : shortE x
      · rw [hsx] at hc
        have HS := Lib.hid (shortL_false hx hsx)
        clear hx hi hsx
        go_wp2_with fail
        refine hc.mono ?_
        rintro e w1 ⟨rfl, he1⟩
        go_wp2_with fail
        go_ret
        exact ⟨by simp [shortE, HS.out], (e0.trans hE).trans he1⟩
      · rw [hsx] at hc
        have HS := Lib.hid (fun j y (hj : j < k + 1) (hy : args[j]? = some y) => (by
          by_cases hjk : j < k
          · exact HALL.out j y hjk hy
          · obtain rfl : j = k := by omega
            rw [hx] at hy
            obtain rfl := Option.some.inj hy
            exact hsx : shortE y = true))
        clear hx hi hsx
        go_wp2_with fail
        refine hc.mono ?_
        rintro e w1 ⟨rfl, he1⟩
        have he2 := hE.trans he1
        clear hc hE he1
        go_wp2_with fail
        go_roundw
        case rel => exact ⟨k + 1, by omega, by go_num, HS.out, he2⟩
        case measure => simp [intOf]; omega
    · obtain rfl : k = args.length := by omega
      have HS := Lib.hid (shortL_true (fun j x hx => HALL.out j x (List.getElem?_eq_some_iff.1 hx).1 hx))
      go_wp2_with fail
      go_ret
      refine ⟨?_, e0.trans hE⟩
      simp only [shortE, HS.out, Bool.true_and]
      congr 2
      simp
      omega
theorem renL_map (c : UInt8) : ∀ l : List Ex, renL c l = l.map (renE c)
  | [] => rfl
  | x :: r => by rw [renL, renL_map c r]; rfl
theorem ren_fine {c : UInt8} {x : Ex} (h : ExFine x) (hs : shortE x = true) : ExFine (renE c x) := by
  obtain ⟨op, n, nm, args⟩ := x
  obtain ⟨h1, h2, h3⟩ := h
  simp only [Ex.op, Ex.n, Ex.name, shortE, Bool.and_eq_true, decide_eq_true_eq] at h1 h2 h3 hs
  refine ⟨h1, h2, ?_⟩
  show (if op = 3 then newS c nm else nm).size ≤ maxLen
  split
  · rw [newS_size]; unfold maxLen; omega
  · exact h3
/-- A list of what is worked out, of one's own, all of it behind base: whatever is written into its own block, its parts read the same. -/
def TnV (w : World) (base : Nat) (l : List Ex) (v : Value) : Prop := ∃ ps : List (Ex × Value), ps.map (·.1) = l ∧ w.ownsRow base 43 4 v l.length (ps.flatMap exP) ∧
  ∀ q, q ∈ ps → ExFine q.1 ∧ ∀ X, Chg (fun b => v.ownBlock = some b) w X → RdExV X base false q.1.args q.2
theorem TnV.nil (w : World) (base : Nat) : TnV w base [] (.slice none 0 0) := ⟨[], rfl, World.ownsRow_nil _ _ _ _, fun q hq => by simp at hq⟩
theorem TnV.form {w : World} {base : Nat} {l : List Ex} {v : Value} (h : TnV w base l v) : ∃ a cap, v = .slice a l.length cap := by
  obtain ⟨ps, _, h, _⟩ := h
  rcases h.2 with ⟨h0, h1⟩ | ⟨g, cap, cur, h1, _⟩
  · exact ⟨none, 0, by rw [h0, h1]⟩
  · exact ⟨_, _, h1⟩
theorem TnV.ext {w w' : World} {base : Nat} {l : List Ex} {v : Value} (h : TnV w base l v) (he : Ext w w') : TnV w' base l v := by
  obtain ⟨ps, h1, h2, h3⟩ := h
  exact ⟨ps, h1, ownsRow_ext h2 he, fun q hq => ⟨(h3 q hq).1, fun X hX => (h3 q hq).2 X ((he.mono (fun _ _ h => h.elim)).trans hX)⟩⟩
theorem TnV.lt {w : World} {base : Nat} {l : List Ex} {v : Value} (h : TnV w base l v) : ∀ g, v.ownBlock = some g → base ≤ g ∧ g < w.heap.size := by
  obtain ⟨ps, _, h2, _⟩ := h
  exact fun g hg => World.ownsRow.lt h2 g hg
theorem TnV.snoc {w2 w9 : World} {base lo : Nat} {l : List Ex} {ps : List (Ex × Value)} {v v6 : Value} {y : Ex} {u : Value} {o : Obj}
    (hps : ps.map (·.1) = l) (hp : ∀ q, q ∈ ps → ExFine q.1 ∧ ∀ X, Chg (fun b => v.ownBlock = some b) w2 X → RdExV X base false q.1.args q.2)
    (hy : ExFine y) (hu : RdExV w2 lo false y.args u) (hlo : base ≤ lo) (hv : ∀ g, v.ownBlock = some g → g < lo)
    (hown : w9.ownsRow base 43 4 v6 (l.length + 1) (ps.flatMap exP ++ exP (y, u))) (hg : (w2.alloc o).grownBy w9 v.ownBlock) (hat : v6.ownBlock = v.ownBlock ∨ v6.ownBlock = some (w2.alloc o).heap.size) : TnV w9 base (l ++ [y]) v6 := by
  have C9 : Chg (fun b => v.ownBlock = some b) w2 w9 := ((Chg.refl _ _).alloc o).trans (Chg.of_grownBy hg)
  have hs : ∀ g, v6.ownBlock = some g → v.ownBlock = some g ∨ w2.heap.size ≤ g := fun g h => by
    rcases hat with e | e
    · exact .inl (e ▸ h)
    · rw [e] at h
      simp at h
      exact .inr (by omega)
  refine ⟨ps ++ [(y, u)], by rw [List.map_append, hps]; rfl, by rw [List.length_append, List.flatMap_append]; simpa using hown, fun q hq => ?_⟩
  rcases List.mem_append.1 hq with hq | hq
  · exact ⟨(hp q hq).1, fun X hX => (hp q hq).2 X (chg_more C9 hX hs)⟩
  · simp only [List.mem_singleton] at hq
    subst hq
    exact ⟨hy, fun X hX => (hu.far (chg_more C9 hX hs) hv).lower hlo⟩
theorem row_rdLo {w : World} {g cap lo : Nat} {cur : Array Value} {ps : List (Ex × Value)} (hr : RowOf exP 4 cur ps) (hg : w.heap[g]? = some (.cells cur 43 (0, 0))) (hlo : lo ≤ g)
    (hps : ∀ p, p ∈ ps → ExFine p.1 ∧ RdExV w lo false p.1.args p.2) (h1 : ps.length ≤ cap) (h2 : cap ≤ maxLen) (h3 : fitsR ps.length 56) : RdExV w lo false (ps.map (·.1)) (.slice (some ⟨g, 0, none⟩) ps.length cap) := by
  have hlt := lt_of_block hg
  refine ⟨_, _, by rw [List.length_map], by rw [List.length_map]; exact h3, by rw [List.length_map]; exact h1, h2, RdExs.mk (fun {i x} hx => ?_), fun h => by cases h⟩
  rw [List.getElem?_map] at hx
  obtain ⟨p, hp, rfl⟩ := Option.map_eq_some_iff.1 hx
  obtain ⟨⟨k1, k2, k3⟩, hv⟩ := hps p (List.mem_of_getElem? hp)
  have hc : ∀ c u, c < 4 → (exP p)[c]? = some u → w.cell? ⟨g, 0 + (0 + i) * 4 + c, none⟩ = some u := fun c u hc hu => by rw [blk_cell hg, Nat.zero_add, Nat.zero_add, hr i p hp c hc]; exact hu
  obtain ⟨⟨op, n, nm, args⟩, u⟩ := p
  exact ⟨g, 0, _, _, _, _, rfl, hlo, hlt, hc 0 _ (by omega) rfl, hc 1 _ (by omega) rfl, hc 2 _ (by omega) rfl, hc 3 _ (by omega) rfl, RdEx.shut k1 k2 k3 hv⟩
theorem TnV.rd {w : World} {base : Nat} {l : List Ex} {v : Value} (h : TnV w base l v) (hf : fitsR l.length 56) : RdExV w base false l v := by
  obtain ⟨ps, rfl, h, hp⟩ := h
  rw [List.length_map] at h hf
  rcases h.2 with ⟨h0, h1⟩ | ⟨g, cap, cur, h1, h2, h3, h4⟩
  · obtain rfl : ps = [] := List.length_eq_zero_iff.1 h1
    rw [h0]
    refine ⟨none, 0, rfl, hf, Nat.zero_le _, Nat.zero_le _, ?_, fun h => by cases h⟩
    unfold RdExs
    trivial
  · subst h1
    obtain ⟨cur, a1, a2, a3, a4, a5, _⟩ := RowOf.own (r := []) exP_len (by simpa using h)
    exact row_rdLo a3 a1 h2 (fun q hq => ⟨(hp q hq).1, (hp q hq).2 w (Chg.refl _ _)⟩) a4 a5 hf
def RetTn (c : UInt8) (x : Ex) (w : World) (e : Ending) (w' : World) : Prop := ∃ u, e = .returned (.agg #[.int .u8 (renE c x).op, .int .i64 (renE c x).n, .string (renE c x).name, u]) ∧ RdExV w' w.heap.size false (renE c x).args u ∧ Ext w w'
/-- turned's answer. -/
def ETn (c : UInt8) (x : Ex) : Prop := ∀ (v : Value) (w : World), ExFine x → RdExV w 0 false x.args v → shortE x = true → Calls Try.prog 20 #[.agg #[.int .u8 x.op, .int .i64 x.n, .string x.name, v], .string (endS c)] w (RetTn c x w)
set_option maxRecDepth 100000 in
set_option maxHeartbeats 4000000 in
theorem turned_any (c : UInt8) : ∀ x, ETn c x := by
  refine Ex.ind fun op n nm args ih => ?_
  intro v w hf hv hs
  have hsl : shortL args = true ∧ nm.size ≤ 38 := by simpa [shortE] using hs
  obtain ⟨hf1, hf2, hf3⟩ := hf
  simp only [Ex.op, Ex.n, Ex.name, Ex.args] at *
  obtain ⟨aa, cap, rfl, hfit, hcap, hcm⟩ := hv.form
  unfold fitsR at hfit
  have HV := Lib.hid hv
  have HI := Lib.hid (fun x (hx : x ∈ args) => ih x hx)
  have HSL := Lib.hid hsl
  have h38 := hsl.2
  have hes : (endS c).size = 2 := rfl
  have hn : args.length ≤ 9000000000000000000 := by omega
  obtain ⟨i0, hinf, hz0, hz1, hz2⟩ := info_parts infoEx
  have e0 := ((Chg.refl (fun _ => False) w).alloc (.cells #[.int .u8 op, .int .i64 n, .string nm, .slice aa args.length cap] 43))
  have bx := heap_alloc_new w (.cells #[.int .u8 op, .int .i64 n, .string nm, .slice aa args.length cap] 43)
  have e1 := e0.alloc (.cells #[.int .u8 0, .int .i64 0, .string ⟨#[]⟩, .slice none 0 0] 43)
  have br := heap_alloc_new (w.alloc (.cells #[.int .u8 op, .int .i64 n, .string nm, .slice aa args.length cap] 43)) (.cells #[.int .u8 0, .int .i64 0, .string ⟨#[]⟩, .slice none 0 0] 43)
  rw [World.size_alloc] at br
  have bx := Ext.heap ((Chg.refl (fun _ => False) (w.alloc (.cells #[.int .u8 op, .int .i64 n, .string nm, .slice aa args.length cap] 43))).alloc (.cells #[.int .u8 0, .int .i64 0, .string ⟨#[]⟩, .slice none 0 0] 43)) bx
  clear ih hv hs hsl e0
  go_enter Try.func20, Try.ntmps20
  go_upto_region 1 with (fail)
  generalize ((w.alloc (.cells #[.int .u8 op, .int .i64 n, .string nm, .slice aa args.length cap] 43)).alloc (.cells #[.int .u8 0, .int .i64 0, .string ⟨#[]⟩, .slice none 0 0] 43)) = W0 at *
  have x0 := blk_cell bx 0
  have x2 := blk_cell bx 2
  have f2 := blk_free bx 2
  simp only [List.getElem?_toArray, List.getElem?_cons_zero, List.getElem?_cons_succ] at x0 x2
  by_cases h3 : op = 3
  · subst h3
    go_upto_region 3 with (fail)
    have eS : nm ++ endS c = newS c nm := rfl
    rw [eS]
    have C1 : Chg (fun q => q = w.heap.size) W0 (W0.setCell ⟨w.heap.size, 2, none⟩ (.string (newS c nm))) := (Chg.refl _ _).setCell _ _ (.inl (Eq.refl _))
    have bx1 := blk_set bx 2 (.string (newS c nm))
    have br1 := C1.heap br (by omega)
    have E1 := Ext.then e1 C1 (fun b hb => by omega)
    generalize hnm' : newS c nm = nm' at *
    have HNS := Lib.hid hnm'
    have hbx : W0.heap.size = (W0.setCell ⟨w.heap.size, 2, none⟩ (.string nm')).heap.size := by simp [World.setCell]
    have hWsz : w.heap.size + 1 < (W0.setCell ⟨w.heap.size, 2, none⟩ (.string nm')).heap.size := lt_of_block br1
    clear x0 x2 f2 bx br C1 e1 eS hbx hnm'
    generalize (W0.setCell ⟨w.heap.size, 2, none⟩ (.string nm')) = W1 at *
    generalize ho3 : (3 : Int) = op at *
    have HNM : Hid (nm' = if op = 3 then newS c nm else nm) := by show _ = _; rw [if_pos ho3.symm]; exact HNS.out.symm
    have bx1 : W1.heap[w.heap.size]? = some (.cells #[.int .u8 op, .int .i64 n, .string nm', .slice aa args.length cap] 43 (0, 0)) := bx1
    have x3 : ∀ X, Ext W1 X → X.cell? ⟨w.heap.size, 3, none⟩ = some (.slice aa args.length cap) := fun X hX => (blk_cell (Ext.heap hX bx1) 3).trans rfl
    have er : Ext W1 W1 := Chg.refl _ _
    go_wp2_with fail
    go_loopw [5, 6] (fun t i wr => ∃ k : Nat, k ≤ args.length ∧ i = .int .i64 k ∧ TnV wr W1.heap.size (renL c (args.take k)) t ∧ Ext W1 wr) (fun _ i _ => args.length - (intOf i).toNat)
    case atStart => exact ⟨0, Nat.zero_le _, rfl, TnV.nil _ _, er⟩
    case round =>
      obtain ⟨k, hk, rfl, hT, hE⟩ := hrel
      obtain ⟨ta, tc, ht⟩ := hT.form
      have hlen : (renL c (args.take k)).length = k := by rw [renL_map, List.length_map, List.length_take]; omega
      rw [hlen] at ht
      subst ht
      have HT := Lib.hid hT
      by_cases hlt : k < args.length
      · have hx := List.getElem?_eq_getElem hlt
        have hmem := List.getElem_mem hlt
        have hi := HI.out _ hmem
        have hsx := shortL_mem HSL.out.1 hmem
        have htk : renL c (args.take (k + 1)) = renL c (args.take k) ++ [renE c args[k]] := by rw [renL_map, renL_map, List.take_succ_eq_append_getElem hlt, List.map_append]; rfl
        obtain ⟨b, o, v, rfl, _, hb, c0, c1, c2, c3, k1, k2, k3, hvx⟩ := (HV.out.ext (E1.trans hE)).get hx
        have q1 : (k : Int) < (args.length : Int) := by omega
        generalize args[k] = x at *
        have HTK := Lib.hid htk
        have hc := hi v wr ⟨k1, k2, k3⟩ hvx hsx
        have hfine := ren_fine (c := c) (x := x) ⟨k1, k2, k3⟩ hsx
        have HFN := Lib.hid hfine
        unfold RetTn at hc
        generalize renE c x = y at *
        clear hx hi hsx htk hmem hfine hvx hT
        go_wp2_with fail
        refine hc.mono ?_
        rintro e w2 ⟨u, rfl, hu, E2⟩
        obtain ⟨ub, uc, rfl, _⟩ := hu.form
        have hT2 := HT.out.ext E2
        have hlt2 := HT.out.lt
        have hsz := hE.size
        have hEw := hE.trans E2
        obtain ⟨ps, hps, hrow, hpp⟩ := hT2
        rw [hlen] at hrow
        have HU := Lib.hid hu
        have HPP := Lib.hid hpp
        have HLT := Lib.hid hlt2
        have hszw := E2.size
        clear hc hu hpp hlt2
        go_wp2_with (at_builtin; refine wpList_append_own_at _ rfl _ _ 41 rfl W1.heap.size 43 i0 _ 4 56 Try.underlying41 hinf hz0 hz1 hz2 rfl (by decide) (.slice ta k tc) k (ps.flatMap exP) rfl (World.ownsRow.alloc hrow _) ⟨w2.heap.size, 0, none⟩ 1 1 (exP (y, .slice ub y.args.length uc)) rfl rfl (cell_many_new _ _ _) (by simp [Value.oneCell', exP]) (by unfold maxLen; omega) (by omega) (by simp; omega) ?_; intro v6 w6 hown6 hgrow6 hnil6 hat6)
        have hT6 := TnV.snoc hps HPP.out HFN.out HU.out (Nat.le_trans (by omega) hsz) (fun g hg => (HLT.out g hg).2) (by rw [hlen]; exact hown6) hgrow6 hat6
        rw [← HTK.out] at hT6
        have E6 : Ext W1 w6 := Ext.then (hEw.alloc _) (Chg.of_grownBy hgrow6) (fun b hb => (HLT.out b hb).1)
        have HT6 := Lib.hid hT6
        clear hT6 hown6 hgrow6 hnil6 hat6 hps hrow
        go_wp2_with fail
        go_roundw
        case rel => exact ⟨k + 1, by omega, by go_num, HT6.out, E6⟩
        case measure => simp [intOf]; omega
      · obtain rfl : k = args.length := by omega
        rw [List.take_length] at hT
        have hlen2 : (renL c args).length = args.length := by rw [renL_map, List.length_map]
        have hrd := hT.rd (by rw [hlen2]; exact hfit)
        have HRD := Lib.hid hrd
        have bx5 := Ext.heap hE bx1
        have br5 := Ext.heap hE br1
        have f3 := blk_free bx5 3
        clear hT hrd
        go_upto_region 9 with (fail)
        have C6 : Chg (fun q => q = w.heap.size) wr (wr.setCell ⟨w.heap.size, 3, none⟩ (.slice ta args.length tc)) := (Chg.refl _ _).setCell _ _ (.inl (Eq.refl _))
        have bx6 := blk_set bx5 3 (.slice ta args.length tc)
        have br6 := C6.heap br5 (by omega)
        generalize hW6 : (wr.setCell ⟨w.heap.size, 3, none⟩ (.slice ta args.length tc)) = W6 at *
        have x0 := blk_cell bx6 0
        have x1 := blk_cell bx6 1
        have x2 := blk_cell bx6 2
        have x3' := blk_cell bx6 3
        simp at x0 x1 x2 x3'
        have f0 := blk_free br6 0
        have f1 := blk_free br6 1
        have f2 := blk_free br6 2
        have f3 := blk_free br6 3
        have r0 := blk_cell br6 0
        have r1 := blk_cell br6 1
        have r2 := blk_cell br6 2
        have r3 := blk_cell br6 3
        simp at r0 r1 r2 r3
        have C7 := chg_sets4 W6 (w.heap.size + 1) (.int .u8 op) (.int .i64 n) (.string nm') (.slice ta args.length tc)
        have br7 := blk_set (blk_set (blk_set (blk_set br6 0 (.int .u8 op)) 1 (.int .i64 n)) 2 (.string nm')) 3 (.slice ta args.length tc)
        go_wp2_with fail
        generalize ((((W6.setCell ⟨w.heap.size + 1, 0, none⟩ (.int .u8 op)).setCell ⟨w.heap.size + 1, 1, none⟩ (.int .i64 n)).setCell ⟨w.heap.size + 1, 2, none⟩ (.string nm')).setCell ⟨w.heap.size + 1, 3, none⟩ (.slice ta args.length tc)) = W7 at *
        have s0 := blk_cell br7 0
        have s1 := blk_cell br7 1
        have s2 := blk_cell br7 2
        have s3 := blk_cell br7 3
        simp at s0 s1 s2 s3
        have D7 : Chg (fun q => q = w.heap.size ∨ q = w.heap.size + 1) wr W7 := (C6.mono (fun q _ h => .inl h)).trans (C7.mono (fun q _ h => .inr h))
        refine bodyPost_ret (v := .agg #[.int .u8 op, .int .i64 n, .string nm', .slice ta args.length tc]) ?_ rfl ⟨.slice ta args.length tc, ?_, ?_, Ext.then (E1.trans hE) D7 (fun b hb => by omega)⟩
        · simp [results, Try.results20, go_sem, s0, s1, s2, s3]
        · rw [HNM.out]; rfl
        · have h7 := HRD.out.far D7 (fun q hq => by omega)
          exact h7.lower (by omega)
  · have b3 : (op == (3 : Int)) = false := by simpa using h3
    go_upto_region 3 with (fail)
    have HNM : Hid (nm = if op = 3 then newS c nm else nm) := by show _ = _; rw [if_neg h3]
    obtain ⟨nm', hnm'⟩ : ∃ nm', nm' = nm := ⟨_, rfl⟩
    have HNM : Hid (nm' = if op = 3 then newS c nm else nm) := by show _ = _; rw [hnm']; exact HNM.out
    rw [← hnm'] at bx
    have bx1 := bx
    have br1 := br
    have E1 := e1
    have hWsz : w.heap.size + 1 < W0.heap.size := lt_of_block br1
    clear x0 x2 f2 bx br e1 hnm'
    generalize W0 = W1 at *
    have x3 : ∀ X, Ext W1 X → X.cell? ⟨w.heap.size, 3, none⟩ = some (.slice aa args.length cap) := fun X hX => (blk_cell (Ext.heap hX bx1) 3).trans rfl
    have er : Ext W1 W1 := Chg.refl _ _
    go_wp2_with fail
    go_loopw [5, 6] (fun t i wr => ∃ k : Nat, k ≤ args.length ∧ i = .int .i64 k ∧ TnV wr W1.heap.size (renL c (args.take k)) t ∧ Ext W1 wr) (fun _ i _ => args.length - (intOf i).toNat)
    case atStart => exact ⟨0, Nat.zero_le _, rfl, TnV.nil _ _, er⟩
    case round =>
      obtain ⟨k, hk, rfl, hT, hE⟩ := hrel
      obtain ⟨ta, tc, ht⟩ := hT.form
      have hlen : (renL c (args.take k)).length = k := by rw [renL_map, List.length_map, List.length_take]; omega
      rw [hlen] at ht
      subst ht
      have HT := Lib.hid hT
      by_cases hlt : k < args.length
      · have hx := List.getElem?_eq_getElem hlt
        have hmem := List.getElem_mem hlt
        have hi := HI.out _ hmem
        have hsx := shortL_mem HSL.out.1 hmem
        have htk : renL c (args.take (k + 1)) = renL c (args.take k) ++ [renE c args[k]] := by rw [renL_map, renL_map, List.take_succ_eq_append_getElem hlt, List.map_append]; rfl
        obtain ⟨b, o, v, rfl, _, hb, c0, c1, c2, c3, k1, k2, k3, hvx⟩ := (HV.out.ext (E1.trans hE)).get hx
        have q1 : (k : Int) < (args.length : Int) := by omega
        generalize args[k] = x at *
        have HTK := Lib.hid htk
        have hc := hi v wr ⟨k1, k2, k3⟩ hvx hsx
        have hfine := ren_fine (c := c) (x := x) ⟨k1, k2, k3⟩ hsx
        have HFN := Lib.hid hfine
        unfold RetTn at hc
        generalize renE c x = y at *
        clear hx hi hsx htk hmem hfine hvx hT
        go_wp2_with fail
        refine hc.mono ?_
        rintro e w2 ⟨u, rfl, hu, E2⟩
        obtain ⟨ub, uc, rfl, _⟩ := hu.form
        have hT2 := HT.out.ext E2
        have hlt2 := HT.out.lt
        have hsz := hE.size
        have hEw := hE.trans E2
        obtain ⟨ps, hps, hrow, hpp⟩ := hT2
        rw [hlen] at hrow
        have HU := Lib.hid hu
        have HPP := Lib.hid hpp
        have HLT := Lib.hid hlt2
        have hszw := E2.size
        clear hc hu hpp hlt2
        go_wp2_with (at_builtin; refine wpList_append_own_at _ rfl _ _ 41 rfl W1.heap.size 43 i0 _ 4 56 Try.underlying41 hinf hz0 hz1 hz2 rfl (by decide) (.slice ta k tc) k (ps.flatMap exP) rfl (World.ownsRow.alloc hrow _) ⟨w2.heap.size, 0, none⟩ 1 1 (exP (y, .slice ub y.args.length uc)) rfl rfl (cell_many_new _ _ _) (by simp [Value.oneCell', exP]) (by unfold maxLen; omega) (by omega) (by simp; omega) ?_; intro v6 w6 hown6 hgrow6 hnil6 hat6)
        have hT6 := TnV.snoc hps HPP.out HFN.out HU.out (Nat.le_trans (by omega) hsz) (fun g hg => (HLT.out g hg).2) (by rw [hlen]; exact hown6) hgrow6 hat6
        rw [← HTK.out] at hT6
        have E6 : Ext W1 w6 := Ext.then (hEw.alloc _) (Chg.of_grownBy hgrow6) (fun b hb => (HLT.out b hb).1)
        have HT6 := Lib.hid hT6
        clear hT6 hown6 hgrow6 hnil6 hat6 hps hrow
        go_wp2_with fail
        go_roundw
        case rel => exact ⟨k + 1, by omega, by go_num, HT6.out, E6⟩
        case measure => simp [intOf]; omega
      · obtain rfl : k = args.length := by omega
        rw [List.take_length] at hT
        have hlen2 : (renL c args).length = args.length := by rw [renL_map, List.length_map]
        have hrd := hT.rd (by rw [hlen2]; exact hfit)
        have HRD := Lib.hid hrd
        have bx5 := Ext.heap hE bx1
        have br5 := Ext.heap hE br1
        have f3 := blk_free bx5 3
        clear hT hrd
        go_upto_region 9 with (fail)
        have C6 : Chg (fun q => q = w.heap.size) wr (wr.setCell ⟨w.heap.size, 3, none⟩ (.slice ta args.length tc)) := (Chg.refl _ _).setCell _ _ (.inl (Eq.refl _))
        have bx6 := blk_set bx5 3 (.slice ta args.length tc)
        have br6 := C6.heap br5 (by omega)
        generalize hW6 : (wr.setCell ⟨w.heap.size, 3, none⟩ (.slice ta args.length tc)) = W6 at *
        have x0 := blk_cell bx6 0
        have x1 := blk_cell bx6 1
        have x2 := blk_cell bx6 2
        have x3' := blk_cell bx6 3
        simp at x0 x1 x2 x3'
        have f0 := blk_free br6 0
        have f1 := blk_free br6 1
        have f2 := blk_free br6 2
        have f3 := blk_free br6 3
        have r0 := blk_cell br6 0
        have r1 := blk_cell br6 1
        have r2 := blk_cell br6 2
        have r3 := blk_cell br6 3
        simp at r0 r1 r2 r3
        have C7 := chg_sets4 W6 (w.heap.size + 1) (.int .u8 op) (.int .i64 n) (.string nm') (.slice ta args.length tc)
        have br7 := blk_set (blk_set (blk_set (blk_set br6 0 (.int .u8 op)) 1 (.int .i64 n)) 2 (.string nm')) 3 (.slice ta args.length tc)
        go_wp2_with fail
        generalize ((((W6.setCell ⟨w.heap.size + 1, 0, none⟩ (.int .u8 op)).setCell ⟨w.heap.size + 1, 1, none⟩ (.int .i64 n)).setCell ⟨w.heap.size + 1, 2, none⟩ (.string nm')).setCell ⟨w.heap.size + 1, 3, none⟩ (.slice ta args.length tc)) = W7 at *
        have s0 := blk_cell br7 0
        have s1 := blk_cell br7 1
        have s2 := blk_cell br7 2
        have s3 := blk_cell br7 3
        simp at s0 s1 s2 s3
        have D7 : Chg (fun q => q = w.heap.size ∨ q = w.heap.size + 1) wr W7 := (C6.mono (fun q _ h => .inl h)).trans (C7.mono (fun q _ h => .inr h))
        refine bodyPost_ret (v := .agg #[.int .u8 op, .int .i64 n, .string nm', .slice ta args.length tc]) ?_ rfl ⟨.slice ta args.length tc, ?_, ?_, Ext.then (E1.trans hE) D7 (fun b hb => by omega)⟩
        · simp [results, Try.results20, go_sem, s0, s1, s2, s3]
        · rw [HNM.out]; rfl
        · have h7 := HRD.out.far D7 (fun q hq => by omega)
          exact h7.lower (by omega)
end Go.Proofs.Ytgdlocjocjamgaa
