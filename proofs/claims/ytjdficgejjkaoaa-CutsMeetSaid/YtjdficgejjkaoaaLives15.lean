/- The chapter's stations: lives answers yes. -/
import Derived.Test.YtjdficgejjkaoaaPlacesW
import Derived.Test.YtjdficgejjkaoaaKnownP
import Derived.Test.YtjdficgejjkaoaaLateOf
import Derived.Deep.Cut
namespace Go.Proofs.Ytjdficgejjkaoaa
open Go.RowKit
set_option linter.unusedVariables false
set_option linter.unusedSimpArgs false

theorem f_U : findP sU knownP.flows knownP.ins = (1, 1, 2, true) := by simp [knownP, findP, findFl, flowS, flowT, flowU, ne_UX.symm, ne_SU, ne_TU]
theorem sites_known : sitesP knownP = [(sX, 1), (sS, 1), (sT, 2), (sU, 1)] := rfl
theorem own_k1 : ownN knownP 1 = [sX, sS, sU] := by unfold ownN; rw [sites_known]; simp
theorem own_k2 : ownN knownP 2 = [sT] := by unfold ownN; rw [sites_known]; simp
theorem own_k3 : ownN knownP 3 = [] := by unfold ownN; rw [sites_known]; simp
theorem asks_fS (s : ByteArray) : asksF flowS s = (decide (sS = s) || decide (sX = s)) := by unfold asksF; rw [show flowS.body = bodyS from rfl, refs_S]; simp
theorem asks_fT (s : ByteArray) : asksF flowT s = decide (sS = s) := by unfold asksF; rw [show flowT.body = nmE sS from rfl, refs_nm]; simp
theorem asks_fU (s : ByteArray) : asksF flowU s = (decide (sT = s) || decide (sX = s)) := by unfold asksF; rw [show flowU.body = addE (nmE sT) (nmE sX) from rfl, refs_U]; simp
theorem far_known (st : Int) (s : ByteArray) : farAsks knownP st s = ((!decide ((1 : Int) = st) && asksF flowS s) || ((!decide ((2 : Int) = st) && asksF flowT s) || (!decide ((1 : Int) = st) && asksF flowU s))) := by
  show ([flowS, flowT, flowU].any fun x => !decide (x.st = st) && asksF x s) = _
  simp only [List.any_cons, List.any_nil, Bool.or_false]
  rfl
theorem here_known (st : Int) (s : ByteArray) : hereAsks knownP st s = ((decide ((1 : Int) = st) && asksF flowS s) || ((decide ((2 : Int) = st) && asksF flowT s) || (decide ((1 : Int) = st) && asksF flowU s))) := by
  show ([flowS, flowT, flowU].any fun x => decide (x.st = st) && asksF x s) = _
  simp only [List.any_cons, List.any_nil, Bool.or_false]
  rfl
theorem sends_k1 : sendsP knownP 1 = [sS] := by
  unfold sendsP
  rw [if_pos n_known, own_k1]
  simp [far_known, asks_fS, asks_fT, asks_fU, ne_SX, ne_SU]
theorem sends_k2 : sendsP knownP 2 = [sT] := by
  unfold sendsP
  rw [if_pos n_known, own_k2]
  simp [far_known, asks_fS, asks_fT, asks_fU]
theorem stations_k : stationsL knownP.st = [1, 2] := rfl
theorem needs_k1 : needsP knownP 1 = [sT] := by
  unfold needsP
  rw [if_pos n_known, stations_k]
  simp [needsAt, own_k2, here_known, asks_fS, asks_fT, asks_fU]
theorem needs_k3 : needsP knownP 3 = [] := by
  unfold needsP
  rw [if_pos n_known, stations_k]
  simp [needsAt, own_k1, own_k2, here_known]
theorem all_k1 : allN knownP 1 = [sX, sS, sU, sT] := by unfold allN; rw [own_k1, needs_k1]; rfl
theorem age_5 : ageP knownP [0, 1, 2] 0 (sX, 0) = (0, 0) := by
  have := ageP_of chk_known (i := 0) (f := flowS) (r := (sX, 0)) rfl (by rw [show flowS.body = bodyS from rfl, refs_S]; simp)
  rw [show ((0 : Nat) : Int) = 0 from rfl] at this
  rw [this]; simp [askOf, f_X, flowS, leastA]
theorem age_6 : ageP knownP [0, 1, 2] 2 (sT, 0) = (0, 0) := by
  have := ageP_of chk_known (i := 2) (f := flowU) (r := (sT, 0)) rfl (by rw [show flowU.body = addE (nmE sT) (nmE sX) from rfl, refs_U]; simp)
  rw [show ((2 : Nat) : Int) = 2 from rfl] at this
  rw [this]; simp [askOf, f_T, flowU, leastA]
theorem keep_known (nm : ByteArray) : keepP knownP [0, 1, 2] 1 nm = keepF knownP [0, 1, 2] 2 nm (keepF knownP [0, 1, 2] 0 nm 0 [(sS, 1), (sX, 0)]) [(sT, 0), (sX, 0)] := by
  unfold keepP
  show keepG knownP [0, 1, 2] 1 nm 0 [flowS, flowT, flowU] 0 = _
  simp only [keepG]
  rw [if_pos (show flowS.st = 1 from rfl), if_neg (show ¬ flowT.st = 1 by decide), if_pos (show flowU.st = 1 from rfl)]
  rw [show flowS.body = bodyS from rfl, refs_S, show flowU.body = addE (nmE sT) (nmE sX) from rfl, refs_U]
theorem keep_kX : keepP knownP [0, 1, 2] 1 sX = 2 := by
  rw [keep_known]
  have e1 := age_1
  have e5 := age_5
  simp [keepF, ne_SX, ne_TX, e1, e5]
  decide
theorem keep_kS : keepP knownP [0, 1, 2] 1 sS = 1 := by
  rw [keep_known]
  have e3 := age_3
  simp [keepF, ne_SX.symm, ne_ST.symm, e3]
  decide
theorem keep_kU : keepP knownP [0, 1, 2] 1 sU = 0 := by
  rw [keep_known]
  simp [keepF, ne_SU, ne_UX.symm, ne_TU]
theorem keep_kT : keepP knownP [0, 1, 2] 1 sT = 0 := by
  rw [keep_known]
  have e6 := age_6
  simp [keepF, ne_ST, ne_TX.symm, e6]
theorem places_k : placesE knownP [0, 1, 2] 1 = 0 ∧ placesP knownP [0, 1, 2] 1 = [⟨sX, 1, 2, false, 0, 0⟩, ⟨sS, 1, 1, false, 0, 0⟩, ⟨sU, 1, 0, false, 0, 0⟩, ⟨sT, 1, 0, true, 2, 0⟩] := by
  obtain ⟨h1, h2⟩ := places_ok chk_known (st := 1) (by decide) (by decide)
  refine ⟨h1, ?_⟩
  rw [h2, all_k1]
  simp only [List.map_cons, List.map_nil, placeOf, stOf, tyOf, f_X, f_S, f_U, f_T, keep_kX, keep_kS, keep_kU, keep_kT, if_true]
  rw [if_neg (by decide)]
  simp only [dfOf, flOf, f_T]
  rfl
theorem places_k2 : placesE knownP [0, 0, 2] 1 = 10 := by
  unfold placesE
  rw [if_pos ⟨n_known, by decide, by decide⟩, chk_other]
  rfl
theorem has_any (l : List ByteArray) (base : Nat) (v : Value) (s : ByteArray) (w : World) (h : StV w base l v) (hn : l.length ≤ 1000000) : Calls Try.prog 29 #[v, .string s] w (RetV (l.any fun q => decide (q = s)) w) := by
  have H := Lib.hid h
  obtain ⟨a, cap, rfl, _⟩ := h.form
  clear h
  generalize hA : (l.any fun q => decide (q = s)) = A
  have HA := Lib.hid hA
  clear hA
  go_enter Try.func29, Try.ntmps29
  go_wp2_with fail
  go_loop [5] (fun i => ∃ k : Nat, k ≤ l.length ∧ i = .int .i64 k ∧ ∀ j t, j < k → l[j]? = some t → t ≠ s) (fun i => l.length - (intOf i).toNat)
  case atStart => exact ⟨0, Nat.zero_le _, rfl, fun j t hj => absurd hj (Nat.not_lt_zero _)⟩
  case round =>
    obtain ⟨k, hk, rfl, hall⟩ := hrel
    have HALL := Lib.hid hall
    clear hall
    by_cases hlt : k < l.length
    · have hx := List.getElem?_eq_getElem hlt
      have q1 : (k : Int) < (l.length : Int) := by omega
      obtain ⟨g, rfl, _, _, c0⟩ := H.out.get hx
      have HX := Lib.hid hx
      generalize l[k] = t at *
      clear hx
      cases hb : (t.toList == s.toList)
      · have HL2 := Lib.hid (fun j u (hj : j < k + 1) (hu : l[j]? = some u) => (by
          by_cases hjk : j < k
          · exact HALL.out j u hjk hu
          · obtain rfl : j = k := by omega
            rw [HX.out] at hu
            obtain rfl := Option.some.inj hu
            exact str_ne hb : u ≠ s))
        go_wp2_with fail
        go_round
        case rel => exact ⟨k + 1, by omega, by go_num, HL2.out⟩
        case measure => simp [intOf]; omega
      · have HT : Hid (A = true) := by
          show _ = _
          rw [← HA.out, List.any_eq_true]
          exact ⟨t, List.mem_of_getElem? HX.out, by simpa using str_eq.1 hb⟩
        go_wp2_with fail
        go_ret
        exact ⟨by rw [HT.out]; rfl, Chg.refl _ _⟩
    · obtain rfl : k = l.length := by omega
      have HT : Hid (A = false) := by
        show _ = _
        rw [← HA.out, List.any_eq_false]
        intro t ht
        obtain ⟨j, hj, rfl⟩ := List.getElem_of_mem ht
        simpa using HALL.out j _ hj (List.getElem?_eq_getElem hj)
      go_wp2_with fail
      go_ret
      exact ⟨by rw [HT.out]; rfl, Chg.refl _ _⟩
end Go.Proofs.Ytjdficgejjkaoaa
namespace Go.Proofs.Ytjdficgejjkaoaa
open Go.RowKit
set_option linter.unusedVariables false
set_option linter.unusedSimpArgs false

set_option maxRecDepth 100000 in
set_option maxHeartbeats 8000000 in
theorem lives15_any (w : World) : Calls Try.prog 24 #[] w (RetT w) := by
  go_enter Try.func24, Try.ntmps24
  go_wp2_with fail
  refine (known_any _).mono ?_
  rintro e w1 ⟨cs, rfl, hpr, E1⟩
  have HP := Lib.hid hpr
  obtain ⟨ai, ci, af, cf, ao, co, rfl⟩ := pr_form hpr
  clear hpr
  have e2 := (Chg.refl (fun _ => False) w1).alloc (.cells #[.int .i64 knownP.st, .slice ai knownP.ins.length ci, .slice af knownP.flows.length cf, .slice ao knownP.outs.length co] 26)
  have b2 := heap_alloc_new w1 (.cells #[.int .i64 knownP.st, .slice ai knownP.ins.length ci, .slice af knownP.flows.length cf, .slice ao knownP.outs.length co] 26)
  go_upto_region 2 with (fail)
  generalize (w1.alloc (.cells #[.int .i64 knownP.st, .slice ai knownP.ins.length ci, .slice af knownP.flows.length cf, .slice ao knownP.outs.length co] 26)) = W0 at *
  have y0 : ∀ X, Ext W0 X → X.cell? ⟨w1.heap.size, 0, none⟩ = some (.int .i64 knownP.st) := fun X hX => (blk_cell (Ext.heap hX b2) 0).trans rfl
  have y1 : ∀ X, Ext W0 X → X.cell? ⟨w1.heap.size, 1, none⟩ = some (.slice ai knownP.ins.length ci) := fun X hX => (blk_cell (Ext.heap hX b2) 1).trans rfl
  have y2 : ∀ X, Ext W0 X → X.cell? ⟨w1.heap.size, 2, none⟩ = some (.slice af knownP.flows.length cf) := fun X hX => (blk_cell (Ext.heap hX b2) 2).trans rfl
  have y3 : ∀ X, Ext W0 X → X.cell? ⟨w1.heap.size, 3, none⟩ = some (.slice ao knownP.outs.length co) := fun X hX => (blk_cell (Ext.heap hX b2) 3).trans rfl
  have er : Ext W0 W0 := Chg.refl _ _
  have F0 := E1.trans e2
  have HPX := Lib.hid (fun (X : World) (hX : Ext W0 X) => HP.out.ext (e2.trans hX))
  have ea : ∀ X o, Ext W0 X → Ext W0 (X.alloc o) := fun X o hX => hX.alloc o
  have i1 : isI64 1 := by unfold isI64; omega
  have i2 : isI64 2 := by unfold isI64; omega
  have i3 : isI64 3 := by unfold isI64; omega
  have HI1 := Lib.hid i1
  have HI2 := Lib.hid i2
  have HI3 := Lib.hid i3
  clear b2 i1 i2 i3
  have h1 := sends_any knownP _ 1 W0 (HPX.out _ er) HI1.out
  rw [sends_k1] at h1
  go_wp2_with fail
  refine h1.mono ?_
  rintro e w2 ⟨u2, rfl, hu2, E2⟩
  clear h1
  obtain ⟨a2, c2, rfl, _⟩ := hu2.form
  obtain ⟨g2, rfl, _, _, k2⟩ := hu2.get (i := 0) rfl
  simp only [List.length_cons, List.length_nil, Nat.zero_add, sS] at k2 ⊢
  have h1 := sends_any knownP _ 2 w2 (HPX.out _ E2) HI2.out
  rw [sends_k2] at h1
  go_wp2_with fail
  refine h1.mono ?_
  rintro e w3 ⟨u3, rfl, hu3, E3'⟩
  clear h1
  obtain ⟨a3, c3, rfl, _⟩ := hu3.form
  obtain ⟨g3, rfl, _, _, k3⟩ := hu3.get (i := 0) rfl
  simp only [List.length_cons, List.length_nil, Nat.zero_add, sT] at k3 ⊢
  have E3 := E2.trans E3'
  have k2 := Ext.cell E3' k2
  clear hu2 hu3 E3' E2
  have e4 := (Chg.refl (fun _ => False) w3).alloc (.cells #[.int .i64 0, .int .i64 1, .int .i64 2] 3)
  have b4 := heap_alloc_new w3 (.cells #[.int .i64 0, .int .i64 1, .int .i64 2] 3)
  have hl4 : RdIntV (w3.alloc (.cells #[.int .i64 0, .int .i64 1, .int .i64 2] 3)) 0 false [0, 1, 2] (.slice (some ⟨w3.heap.size, 0, none⟩) 3 3) := ints_rd (l := [0, 1, 2]) b4 fits_known.2.1 (by simp)
  have h1 := places_any knownP _ [0, 1, 2] _ 1 _ (HPX.out _ (E3.trans e4)) hl4 HI1.out
  unfold RetPl at h1
  rw [places_k.1, places_k.2] at h1
  clear hl4 b4
  go_wp2_with fail
  refine h1.mono ?_
  rintro e w5 ⟨u5, rfl, hu5, E5'⟩
  clear h1
  have E5 := (E3.trans e4).trans E5'
  have k2 := Ext.cell (e4.trans E5') k2
  have k3 := Ext.cell (e4.trans E5') k3
  obtain ⟨a5, c5, rfl, _⟩ := hu5.form
  have g5h := hu5.get (i := 0) rfl
  obtain ⟨g5, rfl, _, _, q0⟩ := g5h
  obtain ⟨_, eg, _, _, q1⟩ := hu5.get (i := 1) rfl
  simp only [Option.some.injEq, Addr.mk.injEq, and_true] at eg
  subst eg
  obtain ⟨_, eg, _, _, q2⟩ := hu5.get (i := 2) rfl
  simp only [Option.some.injEq, Addr.mk.injEq, and_true] at eg
  subst eg
  obtain ⟨_, eg, _, _, q3⟩ := hu5.get (i := 3) rfl
  simp only [Option.some.injEq, Addr.mk.injEq, and_true] at eg
  subst eg
  have HK := Lib.hid (fun (X : World) (hX : Ext w5 X) => (⟨⟨Ext.cell hX (q0 0 (by omega)), Ext.cell hX (q0 1 (by omega)), Ext.cell hX (q0 2 (by omega)), Ext.cell hX (q0 3 (by omega)), Ext.cell hX (q0 4 (by omega)), Ext.cell hX (q0 5 (by omega))⟩, Ext.cell hX (q1 2 (by omega)), Ext.cell hX (q2 2 (by omega)), Ext.cell hX (q3 0 (by omega)), Ext.cell hX (q3 1 (by omega)), Ext.cell hX (q3 2 (by omega)), Ext.cell hX (q3 3 (by omega)), Ext.cell hX (q3 4 (by omega)), Ext.cell hX (q3 5 (by omega))⟩ :
    (X.cell? ⟨g5, 0, none⟩ = some (.string ⟨#[120]⟩) ∧ X.cell? ⟨g5, 1, none⟩ = some (.int .u8 1) ∧ X.cell? ⟨g5, 2, none⟩ = some (.int .i64 2) ∧ X.cell? ⟨g5, 3, none⟩ = some (.bool false) ∧ X.cell? ⟨g5, 4, none⟩ = some (.int .i64 0) ∧ X.cell? ⟨g5, 5, none⟩ = some (.int .i64 0)) ∧
    X.cell? ⟨g5, 8, none⟩ = some (.int .i64 1) ∧ X.cell? ⟨g5, 14, none⟩ = some (.int .i64 0) ∧ X.cell? ⟨g5, 18, none⟩ = some (.string ⟨#[116]⟩) ∧ X.cell? ⟨g5, 19, none⟩ = some (.int .u8 1) ∧ X.cell? ⟨g5, 20, none⟩ = some (.int .i64 0) ∧ X.cell? ⟨g5, 21, none⟩ = some (.bool true) ∧ X.cell? ⟨g5, 22, none⟩ = some (.int .i64 2) ∧ X.cell? ⟨g5, 23, none⟩ = some (.int .i64 0)))
  simp only [List.length_cons, List.length_nil, Nat.zero_add, Nat.reduceAdd]
  clear hu5 q0 q1 q2 q3 E5' e4 E3
  have e6 := (Chg.refl (fun _ => False) w5).alloc (.cells #[.int .i64 0, .int .i64 0, .int .i64 2] 3)
  have b6 := heap_alloc_new w5 (.cells #[.int .i64 0, .int .i64 0, .int .i64 2] 3)
  have hl6 : RdIntV (w5.alloc (.cells #[.int .i64 0, .int .i64 0, .int .i64 2] 3)) 0 false [0, 0, 2] (.slice (some ⟨w5.heap.size, 0, none⟩) 3 3) := ints_rd (l := [0, 0, 2]) b6 (by intro n hn; simp at hn; omega) (by simp)
  have h1 := places_any knownP _ [0, 0, 2] _ 1 _ (HPX.out _ (E5.trans e6)) hl6 HI1.out
  unfold RetPl at h1
  rw [places_k2, placesP_no (by rw [places_k2]; decide)] at h1
  clear hl6 b6
  go_wp2_with fail
  refine h1.mono ?_
  rintro e w7 ⟨u7, rfl, hu7, E7'⟩
  clear h1
  have E7 := (E5.trans e6).trans E7'
  have k2 := Ext.cell (e6.trans E7') k2
  have k3 := Ext.cell (e6.trans E7') k3
  obtain ⟨⟨q0, q1, q2, q3, q4, q5⟩, r8, r14, s0, s1, s2, s3, s4, s5⟩ := HK.out _ (e6.trans E7')
  have HK7 := Lib.hid (fun (X : World) (hX : Ext w7 X) => HK.out X ((e6.trans E7').trans hX))
  obtain ⟨a7, c7, rfl, _⟩ := hu7.form
  have h1 := needs_any knownP _ 3 w7 (HPX.out _ E7) HI3.out
  rw [needs_k3] at h1
  clear hu7 E7' e6 E5
  go_wp2_with fail
  refine h1.mono ?_
  rintro e w8 ⟨u8, rfl, hu8, E8'⟩
  clear h1
  obtain ⟨a8, c8, rfl, _⟩ := hu8.form
  clear q0 q1 q2 q3 q4 q5 r8 r14 s0 s1 s2 s3 s4 s5
  obtain ⟨⟨q0, q1, q2, q3, q4, q5⟩, r8, r14, s0, s1, s2, s3, s4, s5⟩ := HK7.out _ E8'
  simp only [List.length_nil]
  have E8 := F0.trans (E7.trans E8')
  clear hu8 E8' E7
  go_wp2_with fail
  go_ret
  exact ⟨rfl, E8⟩
end Go.Proofs.Ytjdficgejjkaoaa
