/- What stands in this text: CodePuts. -/
import Derived.Test.YtgkbhonjodcakaaGreatJ9
import Derived.Test.YtgkbhonjodcakaaGreatJ10
import Derived.Test.YtgkbhonjodcakaaGreatJ12
import Derived.Deep.AppendLies
import Derived.Deep.Cut
import Derived.Deep.RegionHeld3
import Derived.Deep.RegionLaw
import Derived.BigQuiet
import Derived.Deep.QuietTactic
namespace Go.Proofs.YtgkbhonjodcakaaGreat
open Go.RowKit
set_option linter.unusedVariables false
set_option linter.unusedSimpArgs false

theorem chain1 {w w0 : World} {o : Obj} (h : w.alloc o = w0) : w0.heap.size = w.heap.size + 1 ∧ w0.heap[w.heap.size]? = some o ∧ Ext w w0 := by
  subst h
  exact ⟨by simp, World.alloc_heap_new w o, (Chg.refl _ _).alloc _⟩
/-- The maker in memory. -/
def mkC (p : PrD) (vi vf vo lv : Value) (fl : Int) (M : Nat) (ov : Value) : Array Value := #[.int .i64 p.st, vi, vf, vo, lv, .int .i64 fl, .map (some M), ov]
def MkAt (w : World) (K : Nat) (p : PrD) (vi vf vo lv : Value) (fl : Int) (M : Nat) (ov : Value) : Prop := w.heap[K]? = some (.cells (mkC p vi vf vo lv fl M ov) 101 (0, 0))
/-- What does not change while instructions are made. -/
structure PutEnv (wI : World) (p : PrD) (l : List Int) (vi vf vo lv : Value) (K M n : Nat) (o : Obj) (f : ByteArray → Int) : Prop where
  pr : RdPr wI 0 false p #[.int .i64 p.st, vi, vf, vo]
  ls : RdIntV wI 0 false l lv
  hK : wI.heap.size ≤ K
  hM : M < K
  mi : ∀ X : World, X.heap[M]? = some o → MiV X M n f
def RetPut (w : World) (K : Nat) (p : PrD) (vi vf vo lv : Value) (fl : Int) (M : Nat) (ov : Value) (l : List IsD) (e : Ending) (w' : World) : Prop := ∃ ov', e = .returned (.tuple #[]) ∧ MkAt w' K p vi vf vo lv fl M ov' ∧ IsO w' (K + 1) l ov' ∧
  Chg (fun q => q = K ∨ ov.ownBlock = some q) w w' ∧ ∀ g, ov'.ownBlock = some g → ov.ownBlock = some g ∨ w.heap.size ≤ g
/-- puts' contract at x. -/
def EPut (p : PrD) (l : List Int) (fl : Int) (f : ByteArray → Int) (x : Ex) : Prop := ∀ (xv vi vf vo lv ov : Value) (wI w : World) (K M n d : Nat) (o : Obj) (out : List IsD) (ago : Int), RdExV wI 0 false x.args xv → x.name.size ≤ maxLen → wfE d x = true → PutEnv wI p l vi vf vo lv K M n o f → Ext wI w → w.heap[M]? = some o →
  MkAt w K p vi vf vo lv fl M ov → IsO w (K + 1) out ov → out.length + nodesE x ≤ 100000 →
  Calls Tryz.prog 35 #[.pointer (some ⟨K, 0, none⟩), .agg #[.int .u8 x.op, .int .i64 x.n, .string x.name, xv], .int .i64 ago] w (RetPut w K p vi vf vo lv fl M ov (out ++ codeE f (ageF p l fl) ago x))
theorem chg_own {w w1 w2 : World} {K : Nat} {r r' : Option Nat} (h : Chg (fun q => q = K ∨ r = some q) w w1) (k : Chg (fun q => q = K ∨ r' = some q) w1 w2) (hr : ∀ g, r' = some g → r = some g ∨ w.heap.size ≤ g) : Chg (fun q => q = K ∨ r = some q) w w2 :=
  ⟨k.os.trans h.os, k.tape.trans h.tape, k.output.trans h.output, Nat.le_trans h.size k.size, fun q hq hn => by
    have := h.size
    refine (k.block q (by omega) (fun hs => ?_)).trans (h.block q hq hn)
    rcases hs with hs | hs
    · exact hn (.inl hs)
    · rcases hr q hs with h | h
      · exact hn (.inr h)
      · omega⟩
theorem put_ext {wI w w' : World} {K : Nat} {ov : Value} {out : List IsD} (hE : Ext wI w) (hK : wI.heap.size ≤ K) (hO : IsO w (K + 1) out ov) (hC : Chg (fun q => q = K ∨ ov.ownBlock = some q) w w') : Ext wI w' :=
  Ext.then hE hC (fun b hb => by
    rcases hb with rfl | hb
    · exact hK
    · have := (World.ownsRow.lt hO b hb).1; omega)
theorem put_map {w w' : World} {K M : Nat} {ov : Value} {out : List IsD} {o : Obj} (hM : w.heap[M]? = some o) (hMK : M < K) (hO : IsO w (K + 1) out ov) (hC : Chg (fun q => q = K ∨ ov.ownBlock = some q) w w') : w'.heap[M]? = some o :=
  hC.heap hM (fun hb => by
    rcases hb with hb | hb
    · omega
    · have := (World.ownsRow.lt hO M hb).1; omega)
theorem put_blk {w w' : World} {K B : Nat} {ov : Value} {o : Obj} (hB : w.heap[B]? = some o) (hne : B ≠ K) (hnw : ∀ g, ov.ownBlock = some g → g ≠ B) (hC : Chg (fun q => q = K ∨ ov.ownBlock = some q) w w') : w'.heap[B]? = some o :=
  hC.heap hB (fun hb => by
    rcases hb with hb | hb
    · exact hne hb
    · exact hnw _ hb rfl)
theorem lastI_3 {f : ByteArray → Int} {g : ByteArray → Int → Int} {op n ago : Int} {nm : ByteArray} (h : op = 3) : lastI f g op n nm ago = ⟨op, f nm, g nm ago⟩ := by unfold lastI; rw [if_pos h]
theorem lastI_18 {f : ByteArray → Int} {g : ByteArray → Int → Int} {op n ago : Int} {nm : ByteArray} (h3 : ¬ op = 3) (h : op = 18) : lastI f g op n nm ago = ⟨op, n, ago⟩ := by unfold lastI; rw [if_neg h3, if_pos h]
theorem lastI_x {f : ByteArray → Int} {g : ByteArray → Int → Int} {op n ago : Int} {nm : ByteArray} (h3 : ¬ op = 3) (h : ¬ op = 18) : lastI f g op n nm ago = ⟨op, n, 0⟩ := by unfold lastI; rw [if_neg h3, if_neg h]
theorem setI_chg {w w1 w2 : World} {K I : Nat} {r : Option Nat} (h : Chg (fun q => q = K ∨ r = some q) w w1) (k : Chg (fun q => q = I) w1 w2) (hI : w.heap.size ≤ I) : Chg (fun q => q = K ∨ r = some q) w w2 :=
  ⟨k.os.trans h.os, k.tape.trans h.tape, k.output.trans h.output, Nat.le_trans h.size k.size, fun q hq hn => by
    have := h.size
    exact (k.block q (by omega) (by omega)).trans (h.block q hq hn)⟩
theorem mk_set {w : World} {K : Nat} {p : PrD} {vi vf vo lv ov ov' : Value} {fl : Int} {M : Nat} (h : MkAt w K p vi vf vo lv fl M ov) : MkAt (w.setCell ⟨K, 7, none⟩ ov') K p vi vf vo lv fl M ov' := blk_set h 7 ov'
set_option maxRecDepth 100000 in
set_option maxHeartbeats 8000000 in
theorem puts_any (p : PrD) (l : List Int) (fl : Int) (f : ByteArray → Int) : ∀ x, EPut p l fl f x := by
  refine Ex.ind fun op n nm args ih => ?_
  intro xv vi vf vo lv ov wI w K M nn d o out ago hv0 hnm hwf hPE hE hM hK hO hlen
  simp only [Ex.op, Ex.n, Ex.name, Ex.args] at *
  simp only [nodesE] at hlen
  obtain ⟨a, cap, rfl, hrest⟩ := hv0
  have hv0 : RdExV wI 0 false args (.slice a args.length cap) := ⟨a, cap, rfl, hrest⟩
  have hlen2 : args.length ≤ 9000000000000000000 := by have := hrest.1; unfold fitsR at this; omega
  obtain ⟨_, d', hwl⟩ := wf_open hwf
  clear hrest hwf
  have HI := Lib.hid ih
  have HPE := Lib.hid hPE
  have hKI := hPE.hK
  have hMK := hPE.hM
  clear ih hPE
  have hclen := fun (a1 : Int) => codeL_len f (ageF p l fl) a1 args
  have HCE : Hid (codeE f (ageF p l fl) ago (.mk op n nm args) = codeL f (ageF p l fl) (agoP op ago) args ++ (if op = 19 then [] else [lastI f (ageF p l fl) op n nm ago])) := by show _ = _; rw [codeE]
  have hKw := lt_of_block hK
  have HV0 := Lib.hid hv0
  clear hv0
  by_cases h19 : op = 19
  · have b19 : (op == 19) = true := by simpa using h19
    have HA : Hid (agoP op ago = wrap64 (ago + 1)) := by show _ = _; unfold agoP; rw [if_pos h19]
    have HCE2 : Hid (codeE f (ageF p l fl) ago (.mk op n nm args) = codeL f (ageF p l fl) (agoP op ago) args) := by show _ = _; rw [HCE.out, if_pos h19, List.append_nil]
    clear HCE h19

    go_enter Tryz.func35, Tryz.ntmps35
    have WX := heap_alloc_new w (.cells #[.int .u8 op, .int .i64 n, .string nm, .slice a args.length cap] 41)
    have WC : Chg (fun q => q = K ∨ ov.ownBlock = some q) w (w.alloc (.cells #[.int .u8 op, .int .i64 n, .string nm, .slice a args.length cap] 41)) := (Chg.refl _ _).alloc _
    have e0 : Ext w (w.alloc (.cells #[.int .u8 op, .int .i64 n, .string nm, .slice a args.length cap] 41)) := (Chg.refl _ _).alloc _
    have HK1 := Lib.hid (Ext.heap e0 hK)
    have HO1 := Lib.hid (hO.ext e0)
    have HM1 := Lib.hid (Ext.heap e0 hM)
    go_wp2_with fail
    generalize (w.alloc (.cells #[.int .u8 op, .int .i64 n, .string nm, .slice a args.length cap] 41)) = W at *
    have HX1 := Lib.hid WX
    have HC1 := Lib.hid WC
    clear WX WC e0
    go_loopw [17] (fun i wr => ∃ (k : Nat) (lk : List IsD) (vk : Value), k ≤ args.length ∧ i = .int .i64 k ∧ MkAt wr K p vi vf vo lv fl M vk ∧ IsO wr (K + 1) lk vk ∧ out ++ codeL f (ageF p l fl) (agoP op ago) args = lk ++ codeL f (ageF p l fl) (agoP op ago) (args.drop k) ∧ lk.length + nodesL (args.drop k) + 1 ≤ 100000 ∧
        wr.heap[w.heap.size]? = some (.cells #[.int .u8 op, .int .i64 n, .string nm, .slice a args.length cap] 41 (0, 0)) ∧ wr.heap[M]? = some o ∧ Chg (fun q => q = K ∨ ov.ownBlock = some q) w wr ∧ (∀ g, vk.ownBlock = some g → ov.ownBlock = some g ∨ w.heap.size < g)) (fun i _ => args.length - (intOf i).toNat)
    case atStart => exact ⟨0, out, ov, Nat.zero_le _, rfl, HK1.out, HO1.out, rfl, by simpa using (by omega : out.length + nodesL args + 1 ≤ 100000), HX1.out, HM1.out, HC1.out, fun g hg => .inl hg⟩
    case round =>
      clear HK1 HO1 HM1 HX1 HC1
      obtain ⟨k, lk, vk, hk, rfl, rK, rO, hgl, hll, rX, rM, rC, rG⟩ := hrel
      have HGL := Lib.hid hgl
      have HRO := Lib.hid rO
      have HRK := Lib.hid rK
      have HRM := Lib.hid rM
      have hKw2 := rC.size
      have E1 : Ext wI wr := put_ext hE hKI hO rC
      obtain ⟨av, cv, rfl⟩ := rO.form
      clear hgl rO rM
      by_cases hlt : k < args.length
      case pos =>
        have hx := List.getElem?_eq_getElem hlt
        have hix := HI.out _ (List.getElem_mem hlt)
        obtain ⟨b, oo, v0, rfl, _, hb, y0, y1, y2, y3, _, _, hsn, hvx⟩ := HV0.out.get hx
        have c0 := Ext.cell E1 y0
        have c1 := Ext.cell E1 y1
        have c2 := Ext.cell E1 y2
        have c3 := Ext.cell E1 y3
        have hn1 := nodesL_at hx
        have hwx := wfL_get hwl hx
        have hg1 : codeL f (ageF p l fl) (agoP op ago) (args.drop k) = codeE f (ageF p l fl) (agoP op ago) args[k] ++ codeL f (ageF p l fl) (agoP op ago) (args.drop (k + 1)) := by rw [List.drop_eq_getElem_cons hlt]; rw [codeL]
        have q1 : (k : Int) < (args.length : Int) := by omega
        generalize args[k] = x at *
        have hle := codeE_len f (ageF p l fl) (agoP op ago) x
        obtain ⟨a2, cap2, rfl, _⟩ := hvx.form
        have e2 : Ext wr (wr.alloc (.cells #[.int .u8 x.op, .int .i64 x.n, .string x.name, .slice a2 x.args.length cap2] 41)) := (Chg.refl _ _).alloc _
        have hcall : ∀ a1 : Int, agoP op ago = a1 → _ := fun a1 ha1 => hix _ vi vf vo lv (.slice av lk.length cv) wI (wr.alloc (.cells #[.int .u8 x.op, .int .i64 x.n, .string x.name, .slice a2 x.args.length cap2] 41)) K M nn d' o lk a1 hvx hsn hwx HPE.out (E1.trans e2) (Ext.heap e2 HRM.out) (Ext.heap e2 HRK.out) (HRO.out.ext e2) (by omega)
        have HCa := Lib.hid hcall
        have HG1 := Lib.hid hg1
        have HRX := Lib.hid (Ext.heap e2 rX)
        have HOX := Lib.hid (HRO.out.ext e2)
        have HMX := Lib.hid (Ext.heap e2 HRM.out)
        have hXl := lt_of_block rX
        have x3 := (blk_cell rX 3).trans rfl
        simp only [List.getElem?_toArray, List.getElem?_cons_zero, List.getElem?_cons_succ] at x3
        clear hcall hix hx hvx hg1 rX y0 y1 y2 y3 hwx
        go_wp2_with fail
        refine (HCa.out _ HA.out).mono ?_
        rintro e w4 ⟨v4, rfl, K4, O4, C4, G4⟩
        rw [← HA.out] at O4
        have hsz4 := C4.size
        simp only [World.size_alloc] at hsz4 G4
        have X4 := put_blk HRX.out (by omega) (fun g hg e => by subst e; rcases rG _ hg with h | h; exact absurd (World.ownsRow.lt hO _ h).2 (by omega); omega) C4
        have M4 := put_map HMX.out hMK HOX.out C4
        have C5 : Chg (fun q => q = K ∨ ov.ownBlock = some q) w w4 := chg_own (rC.trans ((Chg.refl _ _).alloc _)) C4 (fun g hg => (rG g hg).imp id (fun h => by omega))
        have G5 : ∀ g, v4.ownBlock = some g → ov.ownBlock = some g ∨ w.heap.size < g := fun g hg => by
          rcases G4 g hg with h | h
          · exact rG g h
          · exact .inr (by omega)
        have hG : Hid (out ++ codeL f (ageF p l fl) (agoP op ago) args = (lk ++ codeE f (ageF p l fl) (agoP op ago) x) ++ codeL f (ageF p l fl) (agoP op ago) (args.drop (k + 1))) := by
          show _ = _
          rw [HGL.out, HG1.out, List.append_assoc]
        have hl5 : (lk ++ codeE f (ageF p l fl) (agoP op ago) x).length + nodesL (args.drop (k + 1)) + 1 ≤ 100000 := by rw [List.length_append]; omega
        have HL5 := Lib.hid hl5
        have HK4 := Lib.hid K4
        have HO4 := Lib.hid O4
        clear G4 C4 K4 O4 hl5 HCa HG1 HRX HOX HMX HGL rC rG x3 e2 E1
        go_wp2_with fail
        go_roundw
        case rel => exact ⟨k + 1, _, v4, by omega, by go_num, HK4.out, HO4.out, hG.out, HL5.out, X4, M4, C5, G5⟩
        case measure => simp [intOf]; omega
      obtain rfl : k = args.length := by omega
      have hfull : lk = out ++ codeL f (ageF p l fl) (agoP op ago) args := by rw [HGL.out, List.drop_length]; simp [codeL]
      have HF := Lib.hid hfull
      have hll2 : lk.length + 1 ≤ 100000 := by omega
      clear hfull HGL
      have hXl := lt_of_block rX
      have rXX := rX

      have x0 : ∀ X, Ext wr X → X.cell? ⟨w.heap.size, 0, none⟩ = some (.int .u8 op) := fun X hX => (blk_cell (Ext.heap hX rX) 0).trans rfl
      have x1 : ∀ X, Ext wr X → X.cell? ⟨w.heap.size, 1, none⟩ = some (.int .i64 n) := fun X hX => (blk_cell (Ext.heap hX rX) 1).trans rfl
      have er : Ext wr wr := Chg.refl _ _
      have e3 : Ext wr (wr.alloc (.cells #[.int .u8 op, .int .i64 n, .int .i64 0] 53)) := (Chg.refl _ _).alloc _
      have R1 := Lib.hid (Ext.heap e3 HRK.out)
      have R2 : Hid (IsO (wr.alloc (.cells #[.int .u8 op, .int .i64 n, .int .i64 0] 53)) (K + 1) (out ++ codeE f (ageF p l fl) ago (.mk op n nm args)) (.slice av lk.length cv)) := by
        show IsO _ _ _ _
        rw [HCE2.out, ← HF.out]
        exact HRO.out.ext e3
      have R3 := Lib.hid (rC.trans (e3.mono (fun _ _ h => h.elim)))
      have R4 := Lib.hid (fun g (hg : (Value.slice av lk.length cv).ownBlock = some g) => ((rG g hg).imp id (fun h => by omega) : ov.ownBlock = some g ∨ w.heap.size ≤ g))
      clear rX rC rXX rG
      go_wp2_with fail
      refine bodyPost_ret (results_none rfl _ _ _) rfl ⟨_, rfl, R1.out, R2.out, R3.out, R4.out⟩
  have b19 : (op == 19) = false := by simpa using h19
  have HA : Hid (agoP op ago = ago) := by show _ = _; unfold agoP; rw [if_neg h19]
  have HCE2 : Hid (codeE f (ageF p l fl) ago (.mk op n nm args) = codeL f (ageF p l fl) (agoP op ago) args ++ [lastI f (ageF p l fl) op n nm ago]) := by show _ = _; rw [HCE.out, if_neg h19]
  clear HCE
  by_cases h3 : op = 3
  case pos =>
    have b3 : (op == 3) = true := by simpa using h3
    have HL : Hid (lastI f (ageF p l fl) op n nm ago = ⟨op, f nm, ageF p l fl nm ago⟩) := lastI_3 h3
    clear h3 h19

    go_enter Tryz.func35, Tryz.ntmps35
    have WX := heap_alloc_new w (.cells #[.int .u8 op, .int .i64 n, .string nm, .slice a args.length cap] 41)
    have WC : Chg (fun q => q = K ∨ ov.ownBlock = some q) w (w.alloc (.cells #[.int .u8 op, .int .i64 n, .string nm, .slice a args.length cap] 41)) := (Chg.refl _ _).alloc _
    have e0 : Ext w (w.alloc (.cells #[.int .u8 op, .int .i64 n, .string nm, .slice a args.length cap] 41)) := (Chg.refl _ _).alloc _
    have HK1 := Lib.hid (Ext.heap e0 hK)
    have HO1 := Lib.hid (hO.ext e0)
    have HM1 := Lib.hid (Ext.heap e0 hM)
    go_wp2_with fail
    generalize (w.alloc (.cells #[.int .u8 op, .int .i64 n, .string nm, .slice a args.length cap] 41)) = W at *
    have HX1 := Lib.hid WX
    have HC1 := Lib.hid WC
    clear WX WC e0
    go_loopw [17] (fun i wr => ∃ (k : Nat) (lk : List IsD) (vk : Value), k ≤ args.length ∧ i = .int .i64 k ∧ MkAt wr K p vi vf vo lv fl M vk ∧ IsO wr (K + 1) lk vk ∧ out ++ codeL f (ageF p l fl) (agoP op ago) args = lk ++ codeL f (ageF p l fl) (agoP op ago) (args.drop k) ∧ lk.length + nodesL (args.drop k) + 1 ≤ 100000 ∧
        wr.heap[w.heap.size]? = some (.cells #[.int .u8 op, .int .i64 n, .string nm, .slice a args.length cap] 41 (0, 0)) ∧ wr.heap[M]? = some o ∧ Chg (fun q => q = K ∨ ov.ownBlock = some q) w wr ∧ (∀ g, vk.ownBlock = some g → ov.ownBlock = some g ∨ w.heap.size < g)) (fun i _ => args.length - (intOf i).toNat)
    case atStart => exact ⟨0, out, ov, Nat.zero_le _, rfl, HK1.out, HO1.out, rfl, by simpa using (by omega : out.length + nodesL args + 1 ≤ 100000), HX1.out, HM1.out, HC1.out, fun g hg => .inl hg⟩
    case round =>
      clear HK1 HO1 HM1 HX1 HC1
      obtain ⟨k, lk, vk, hk, rfl, rK, rO, hgl, hll, rX, rM, rC, rG⟩ := hrel
      have HGL := Lib.hid hgl
      have HRO := Lib.hid rO
      have HRK := Lib.hid rK
      have HRM := Lib.hid rM
      have hKw2 := rC.size
      have E1 : Ext wI wr := put_ext hE hKI hO rC
      obtain ⟨av, cv, rfl⟩ := rO.form
      clear hgl rO rM
      by_cases hlt : k < args.length
      case pos =>
        have hx := List.getElem?_eq_getElem hlt
        have hix := HI.out _ (List.getElem_mem hlt)
        obtain ⟨b, oo, v0, rfl, _, hb, y0, y1, y2, y3, _, _, hsn, hvx⟩ := HV0.out.get hx
        have c0 := Ext.cell E1 y0
        have c1 := Ext.cell E1 y1
        have c2 := Ext.cell E1 y2
        have c3 := Ext.cell E1 y3
        have hn1 := nodesL_at hx
        have hwx := wfL_get hwl hx
        have hg1 : codeL f (ageF p l fl) (agoP op ago) (args.drop k) = codeE f (ageF p l fl) (agoP op ago) args[k] ++ codeL f (ageF p l fl) (agoP op ago) (args.drop (k + 1)) := by rw [List.drop_eq_getElem_cons hlt]; rw [codeL]
        have q1 : (k : Int) < (args.length : Int) := by omega
        generalize args[k] = x at *
        have hle := codeE_len f (ageF p l fl) (agoP op ago) x
        obtain ⟨a2, cap2, rfl, _⟩ := hvx.form
        have e2 : Ext wr (wr.alloc (.cells #[.int .u8 x.op, .int .i64 x.n, .string x.name, .slice a2 x.args.length cap2] 41)) := (Chg.refl _ _).alloc _
        have hcall : ∀ a1 : Int, agoP op ago = a1 → _ := fun a1 ha1 => hix _ vi vf vo lv (.slice av lk.length cv) wI (wr.alloc (.cells #[.int .u8 x.op, .int .i64 x.n, .string x.name, .slice a2 x.args.length cap2] 41)) K M nn d' o lk a1 hvx hsn hwx HPE.out (E1.trans e2) (Ext.heap e2 HRM.out) (Ext.heap e2 HRK.out) (HRO.out.ext e2) (by omega)
        have HCa := Lib.hid hcall
        have HG1 := Lib.hid hg1
        have HRX := Lib.hid (Ext.heap e2 rX)
        have HOX := Lib.hid (HRO.out.ext e2)
        have HMX := Lib.hid (Ext.heap e2 HRM.out)
        have hXl := lt_of_block rX
        have x3 := (blk_cell rX 3).trans rfl
        simp only [List.getElem?_toArray, List.getElem?_cons_zero, List.getElem?_cons_succ] at x3
        clear hcall hix hx hvx hg1 rX y0 y1 y2 y3 hwx
        go_wp2_with fail
        refine (HCa.out _ HA.out).mono ?_
        rintro e w4 ⟨v4, rfl, K4, O4, C4, G4⟩
        rw [← HA.out] at O4
        have hsz4 := C4.size
        simp only [World.size_alloc] at hsz4 G4
        have X4 := put_blk HRX.out (by omega) (fun g hg e => by subst e; rcases rG _ hg with h | h; exact absurd (World.ownsRow.lt hO _ h).2 (by omega); omega) C4
        have M4 := put_map HMX.out hMK HOX.out C4
        have C5 : Chg (fun q => q = K ∨ ov.ownBlock = some q) w w4 := chg_own (rC.trans ((Chg.refl _ _).alloc _)) C4 (fun g hg => (rG g hg).imp id (fun h => by omega))
        have G5 : ∀ g, v4.ownBlock = some g → ov.ownBlock = some g ∨ w.heap.size < g := fun g hg => by
          rcases G4 g hg with h | h
          · exact rG g h
          · exact .inr (by omega)
        have hG : Hid (out ++ codeL f (ageF p l fl) (agoP op ago) args = (lk ++ codeE f (ageF p l fl) (agoP op ago) x) ++ codeL f (ageF p l fl) (agoP op ago) (args.drop (k + 1))) := by
          show _ = _
          rw [HGL.out, HG1.out, List.append_assoc]
        have hl5 : (lk ++ codeE f (ageF p l fl) (agoP op ago) x).length + nodesL (args.drop (k + 1)) + 1 ≤ 100000 := by rw [List.length_append]; omega
        have HL5 := Lib.hid hl5
        have HK4 := Lib.hid K4
        have HO4 := Lib.hid O4
        clear G4 C4 K4 O4 hl5 HCa HG1 HRX HOX HMX HGL rC rG x3 e2 E1
        go_wp2_with fail
        go_roundw
        case rel => exact ⟨k + 1, _, v4, by omega, by go_num, HK4.out, HO4.out, hG.out, HL5.out, X4, M4, C5, G5⟩
        case measure => simp [intOf]; omega
      obtain rfl : k = args.length := by omega
      have hfull : lk = out ++ codeL f (ageF p l fl) (agoP op ago) args := by rw [HGL.out, List.drop_length]; simp [codeL]
      have HF := Lib.hid hfull
      have hll2 : lk.length + 1 ≤ 100000 := by omega
      clear hfull HGL
      have hXl := lt_of_block rX
      have rXX := rX

      have x0 : ∀ X, Ext wr X → X.cell? ⟨w.heap.size, 0, none⟩ = some (.int .u8 op) := fun X hX => (blk_cell (Ext.heap hX rX) 0).trans rfl
      have x1 : ∀ X, Ext wr X → X.cell? ⟨w.heap.size, 1, none⟩ = some (.int .i64 n) := fun X hX => (blk_cell (Ext.heap hX rX) 1).trans rfl
      have er : Ext wr wr := Chg.refl _ _

      go_upto_region 9 with (fail)
      generalize hwI2 : wr.alloc _ = wi
      obtain ⟨sI, bI, eI⟩ := chain1 hwI2
      clear hwI2
      have BX := Ext.heap eI rX
      have BM := Ext.heap eI HRM.out
      have BK := Ext.heap eI HRK.out
      have BO := HRO.out.ext eI
      have CI := rC.trans ((eI.mono (fun _ _ h => h.elim)))
      have EI := E1.trans eI
      generalize hIs : wr.heap.size = I at *
      have hKI2 : K ≠ I := by omega
      have hxI : w.heap.size ≠ I := by omega
      have HRO0 := HRO
      have HRM0 := HRM
      have HBX := Lib.hid BX
      have HBM := Lib.hid BM
      have HBK := Lib.hid BK
      have HBO := Lib.hid BO
      have HBI := Lib.hid bI
      have HCI := Lib.hid CI
      have HEI := Lib.hid EI
      clear BX BM BK BO CI EI bI rX rXX HRM HRK HRO rC E1 x0 x1 er eI sI
      have z0 : ∀ X, Ext wi X → X.cell? ⟨w.heap.size, 0, none⟩ = some (.int .u8 op) := fun X hX => (blk_cell (Ext.heap hX HBX.out) 0).trans rfl
      have z2 : ∀ X, Ext wi X → X.cell? ⟨w.heap.size, 2, none⟩ = some (.string nm) := fun X hX => (blk_cell (Ext.heap hX HBX.out) 2).trans rfl
      have k6 : ∀ X, Ext wi X → X.cell? ⟨K, 6, none⟩ = some (.map (some M)) := fun X hX => (blk_cell (Ext.heap hX HBK.out) 6).trans rfl
      have hlk : ∀ X, Ext wi X → (Instr.lookup 88 (.map (some M)) (.string nm) false).run Tryz.prog X = .ok (.int .i64 (f nm)) X := fun X hX => (HPE.out.mi X (Ext.heap hX HBM.out)).look hnm
      have er : Ext wi wi := Chg.refl _ _
      have ed : ∀ X, Ext wi X → Ext wi X.drew := fun X hX => hX.drew
      have fI : ∀ X, Ext wi X → X.frozen? ⟨I, 1, none⟩ = false := fun X hX => blk_free (Ext.heap hX HBI.out) 1
      have cI : ∀ X, Ext wi X → X.cell? ⟨I, 1, none⟩ = some (.int .i64 n) := fun X hX => (blk_cell (Ext.heap hX HBI.out) 1).trans rfl
      have CI2 := ((Chg.refl (fun q => q = I) wi).setCell ⟨I, 1, none⟩ (.int .i64 (f nm)) (.inl (Eq.refl I))).drew
      have HVI0 : Hid ((wi.setCell ⟨I, 1, none⟩ (.int .i64 (f nm))).drew.heap[I]? = some (.cells #[.int .u8 op, .int .i64 (f nm), .int .i64 0] 53 (0, 0))) := (blk_set HBI.out 1 (.int .i64 (f nm))).trans rfl
      go_upto_region 12 with (fail)
      go_region
      go_upto_region 13 with (fail)
      generalize hw5 : (wi.setCell ⟨I, 1, none⟩ (.int .i64 (f nm))).drew = w5 at *
      have HVK5 := Lib.hid (CI2.heap HBK.out hKI2)
      have HVX5 := Lib.hid (CI2.heap HBX.out hxI)
      have HVM5 := Lib.hid (CI2.heap HBM.out (by have := lt_of_block HRM0.out; omega))
      have HVO5 := Lib.hid (HBO.out.chg CI2 (fun g hg h => by have := (World.ownsRow.lt HRO0.out g hg).2; omega))
      have HCV5 : Hid (Chg (fun q => q = K ∨ ov.ownBlock = some q) w w5) := setI_chg HCI.out CI2 (by omega)
      have HEV5 : Hid (Ext wI w5) := Ext.then HEI.out CI2 (fun q hq => by have := hE.size; omega)
      clear hw5 CI2 z0 z2 k6 hlk er ed fI cI
      have y0 : ∀ X, Chg (fun q => q = I) w5 X → X.cell? ⟨K, 0, none⟩ = some (.int .i64 p.st) := fun X hX => (blk_cell (hX.heap HVK5.out hKI2) 0).trans rfl
      have y1 : ∀ X, Chg (fun q => q = I) w5 X → X.cell? ⟨K, 1, none⟩ = some vi := fun X hX => (blk_cell (hX.heap HVK5.out hKI2) 1).trans rfl
      have y2 : ∀ X, Chg (fun q => q = I) w5 X → X.cell? ⟨K, 2, none⟩ = some vf := fun X hX => (blk_cell (hX.heap HVK5.out hKI2) 2).trans rfl
      have y3 : ∀ X, Chg (fun q => q = I) w5 X → X.cell? ⟨K, 3, none⟩ = some vo := fun X hX => (blk_cell (hX.heap HVK5.out hKI2) 3).trans rfl
      have y4 : ∀ X, Chg (fun q => q = I) w5 X → X.cell? ⟨K, 4, none⟩ = some lv := fun X hX => (blk_cell (hX.heap HVK5.out hKI2) 4).trans rfl
      have y5 : ∀ X, Chg (fun q => q = I) w5 X → X.cell? ⟨K, 5, none⟩ = some (.int .i64 fl) := fun X hX => (blk_cell (hX.heap HVK5.out hKI2) 5).trans rfl
      have zn : ∀ X, Chg (fun q => q = I) w5 X → X.cell? ⟨w.heap.size, 2, none⟩ = some (.string nm) := fun X hX => (blk_cell (hX.heap HVX5.out hxI) 2).trans rfl
      have G0 : Chg (fun q => q = I) w5 w5.drew := (Chg.refl _ _).drew
      have HAG := Lib.hid (fun (X : World) (hX : Ext w5 X) => age_any p _ l lv fl (nm, ago) X (HPE.out.pr.ext (HEV5.out.trans hX)) (HPE.out.ls.ext (HEV5.out.trans hX)))
      unfold RetAge at HAG
      generalize hag : (ageP p l fl (nm, ago)) = ag at *
      obtain ⟨ag1, ag2⟩ := ag
      have HAG1 : Hid (ageF p l fl nm ago = ag1) := by show _ = _; unfold ageF; rw [hag]
      clear hag
      simp only at HAG
      go_region_held3 (fun X => Chg (fun q => q = I) w5 X) (first | assumption | exact GG.setCell _ _ (.inl (Eq.refl I)))
        (first
          | (go_at_call 28; refine (HAG.out _ ((Chg.refl _ _).drew)).mono ?_; rintro e w6 ⟨rfl, E6⟩; have E56 : Ext w5 w6 := ((Chg.refl _ _).drew).trans E6; have GG : Chg (fun q => q = I) w5 w6 := E56.mono (fun _ _ h => h.elim); have cI6 := (blk_cell (Ext.heap E56 HVI0.out) 2).trans rfl; have fI6 := blk_free (Ext.heap E56 HVI0.out) 2; simp only [List.getElem?_toArray, List.getElem?_cons_zero, List.getElem?_cons_succ] at cI6))
      have C6 := GG.setCell ⟨I, 2, none⟩ (.int .i64 ag1) (.inl (Eq.refl I))
      have HVI6 := blk_set (Ext.heap E56 HVI0.out) 2 (.int .i64 ag1)
      have HL2 : Hid (lastI f (ageF p l fl) op n nm ago = ⟨op, f nm, ag1⟩) := by show _ = _; rw [HL.out, HAG1.out]
      have HVK6 := C6.heap HVK5.out hKI2
      have HVO6 := HVO5.out.chg C6 (fun g hg h => by have := (World.ownsRow.lt HRO0.out g hg).2; omega)
      have HCV6 : Chg (fun q => q = K ∨ ov.ownBlock = some q) w (w6.setCell ⟨I, 2, none⟩ (.int .i64 ag1)) := setI_chg HCV5.out C6 (by omega)
      go_upto_region 16 with (fail)
      generalize hV : w6.setCell ⟨I, 2, none⟩ (.int .i64 ag1) = V at *
      have HVI : Hid (V.heap[I]? = some (.cells #[.int .u8 op, .int .i64 (f nm), .int .i64 ag1] 53 (0, 0))) := by show _ = _; rw [HVI6]; rfl
      have HVK := Lib.hid HVK6
      have HVO := Lib.hid HVO6
      have HCV := Lib.hid HCV6
      clear HL
      have HL := HL2
      clear HVI6 HVK6 HVO6 HCV6 hV C6 GG E56 cI6 fI6 E6 y0 y1 y2 y3 y4 y5 zn G0 HVI0 HVK5 HVX5 HVM5 HVO5 HCV5 HEV5 HAG

      have hown0 := World.ownsRow.lt HRO0.out
      have hnK : ∀ q, (Value.slice av lk.length cv).ownBlock = some q → ¬ q = K := fun q hq h => by have := (hown0 q hq).1; omega
      have hnI : ∀ q, (Value.slice av lk.length cv).ownBlock = some q → ¬ q = I := fun q hq h => by have := (hown0 q hq).2; omega
      have sK : ∀ X, Chg (fun q => (Value.slice av lk.length cv).ownBlock = some q) V X → MkAt X K p vi vf vo lv fl M (.slice av lk.length cv) := fun X hX => hX.heap HVK.out (fun h => hnK _ h rfl)
      have sI : ∀ X, Chg (fun q => (Value.slice av lk.length cv).ownBlock = some q) V X → X.heap[I]? = some (.cells #[.int .u8 op, .int .i64 (f nm), .int .i64 ag1] 53 (0, 0)) := fun X hX => hX.heap HVI.out (fun h => hnI _ h rfl)
      have SK := Lib.hid sK
      have SI := Lib.hid sI
      have k7 : ∀ X, Chg (fun q => (Value.slice av lk.length cv).ownBlock = some q) V X → X.cell? ⟨K, 7, none⟩ = some (.slice av lk.length cv) := fun X hX => (blk_cell (SK.out X hX) 7).trans rfl
      have f7 : ∀ X, Chg (fun q => (Value.slice av lk.length cv).ownBlock = some q) V X → X.frozen? ⟨K, 7, none⟩ = false := fun X hX => blk_free (SK.out X hX) 7
      have i0 : ∀ X, Chg (fun q => (Value.slice av lk.length cv).ownBlock = some q) V X → X.cell? ⟨I, 0, none⟩ = some (.int .u8 op) := fun X hX => (blk_cell (SI.out X hX) 0).trans rfl
      have i1 : ∀ X, Chg (fun q => (Value.slice av lk.length cv).ownBlock = some q) V X → X.cell? ⟨I, 1, none⟩ = some (.int .i64 (f nm)) := fun X hX => (blk_cell (SI.out X hX) 1).trans rfl
      have i2 : ∀ X, Chg (fun q => (Value.slice av lk.length cv).ownBlock = some q) V X → X.cell? ⟨I, 2, none⟩ = some (.int .i64 ag1) := fun X hX => (blk_cell (SI.out X hX) 2).trans rfl
      have G0 : Chg (fun q => (Value.slice av lk.length cv).ownBlock = some q) V V := Chg.refl _ _
      have ed : ∀ X, Chg (fun q => (Value.slice av lk.length cv).ownBlock = some q) V X → Chg (fun q => (Value.slice av lk.length cv).ownBlock = some q) V X.drew := fun X hX => hX.drew
      have ea : ∀ X ob, Chg (fun q => (Value.slice av lk.length cv).ownBlock = some q) V X → Chg (fun q => (Value.slice av lk.length cv).ownBlock = some q) V (X.alloc ob) := fun X ob hX => hX.alloc ob
      have G1 := ed _ G0
      obtain ⟨ti, hinf, hz0, hz1, hz2⟩ := info_parts infoIs
      have hvs : w.heap.size ≤ V.heap.size := HCV.out.size
      have hIV := lt_of_block HVI.out
      have HOV2 := Lib.hid (ownsRow_ext HVO.out ((Chg.refl (fun _ => False) V).drew))
      have hKV : K + 1 ≤ V.heap.size := by have := lt_of_block HVK.out; omega
      clear sK sI hown0
      go_region_law (refine step_append_lies _ (by rfl) _ _ 44 (by rfl) (K + 1) 53 ti _ 3 24 Tryz.underlying44 hinf hz0 hz1 hz2 rfl (by decide) (.slice av lk.length cv) lk.length (lk.flatMap isC) (by rfl) (ownsRow_ext HOV2.out ((Chg.refl _ _).alloc _)) ⟨V.drew.heap.size, 0, none⟩ 1 1 [.int .u8 op, .int .i64 (f nm), .int .i64 ag1] (by rfl) rfl (World.news_of_block (heap_alloc_new V.drew _)) (by simp [Value.oneCell']) (by decide) (by unfold maxLen; omega) (by omega) (by simp; omega) _ rfl ?_; intro g4 cap4 w4 hown4 hgrow4 hat4 hlt4; have D4a := Chg.of_grownBy hgrow4; have D4 : Chg (fun q => (Value.slice av lk.length cv).ownBlock = some q) V w4 := (ea _ _ (ed _ G0)).trans D4a; have c74 := k7 w4 D4; have f74 := f7 w4 D4)
      all_goals (
        have hat5 : (Value.slice av lk.length cv).ownBlock = some g4 ∨ V.heap.size ≤ g4 := hat4.imp id (fun h => by rw [h]; simp)
        have hgK : ¬ g4 = K := by
          rcases hat5 with h | h
          · exact hnK _ h
          · omega
        have hIO : IsO w4 (K + 1) (lk ++ [⟨op, (f nm), ag1⟩]) (.slice (some ⟨g4, 0, none⟩) (lk.length + 1) cap4) := IsO.snoc hown4
        have C8 : Chg (fun q => q = K) w4 (w4.setCell ⟨K, 7, none⟩ (.slice (some ⟨g4, 0, none⟩) (lk.length + 1) cap4)) := (Chg.refl _ _).setCell _ _ (.inl (Eq.refl K))
        have R1 := Lib.hid (mk_set (ov' := .slice (some ⟨g4, 0, none⟩) (lk.length + 1) cap4) (SK.out w4 D4))
        have R2 : Hid (IsO (w4.setCell ⟨K, 7, none⟩ (.slice (some ⟨g4, 0, none⟩) (lk.length + 1) cap4)) (K + 1) (out ++ codeE f (ageF p l fl) ago (.mk op n nm args)) (.slice (some ⟨g4, 0, none⟩) (lk.length + 1) cap4)) := by
          show IsO _ _ _ _
          rw [HCE2.out, HL.out, ← List.append_assoc, ← HF.out]
          exact hIO.chg C8 (fun g hg h => by simp only [Value.ownBlock, Option.some.injEq] at hg; exact hgK (hg.trans h))
        have D5 : Chg (fun q => q = K ∨ ov.ownBlock = some q) w w4 := chg_own HCV.out (D4.mono (T := fun q => q = K ∨ (Value.slice av lk.length cv).ownBlock = some q) (fun _ _ h => .inr h)) (fun g hg => (rG g hg).imp id (fun h => by omega))
        have R3 := Lib.hid (D5.trans (C8.mono (T := fun q => q = K ∨ ov.ownBlock = some q) (fun _ _ h => .inl h)))
        have R4 : Hid (∀ g, (Value.slice (some ⟨g4, 0, none⟩) (lk.length + 1) cap4).ownBlock = some g → ov.ownBlock = some g ∨ w.heap.size ≤ g) := fun g hg => by
          simp only [Value.ownBlock, Option.some.injEq] at hg
          subst hg
          rcases hat5 with h | h
          · exact (rG _ h).imp id (fun h => by omega)
          · exact .inr (by omega)
        clear hIO C8 D5 hat5 hat4 hown4 hgrow4 D4 D4a rG k7 f7 i0 i1 i2 ed ea SK SI
        go_wp2_with fail
        refine bodyPost_end (results_none rfl _ _ _) rfl ⟨_, rfl, R1.out, R2.out, R3.out, R4.out⟩)

  have b3 : (op == 3) = false := by simpa using h3
  by_cases h18 : op = 18
  case pos =>
    have b18 : (op == 18) = true := by simpa using h18
    have HL : Hid (lastI f (ageF p l fl) op n nm ago = ⟨op, n, ago⟩) := lastI_18 h3 h18
    clear h3 h18 h19

    go_enter Tryz.func35, Tryz.ntmps35
    have WX := heap_alloc_new w (.cells #[.int .u8 op, .int .i64 n, .string nm, .slice a args.length cap] 41)
    have WC : Chg (fun q => q = K ∨ ov.ownBlock = some q) w (w.alloc (.cells #[.int .u8 op, .int .i64 n, .string nm, .slice a args.length cap] 41)) := (Chg.refl _ _).alloc _
    have e0 : Ext w (w.alloc (.cells #[.int .u8 op, .int .i64 n, .string nm, .slice a args.length cap] 41)) := (Chg.refl _ _).alloc _
    have HK1 := Lib.hid (Ext.heap e0 hK)
    have HO1 := Lib.hid (hO.ext e0)
    have HM1 := Lib.hid (Ext.heap e0 hM)
    go_wp2_with fail
    generalize (w.alloc (.cells #[.int .u8 op, .int .i64 n, .string nm, .slice a args.length cap] 41)) = W at *
    have HX1 := Lib.hid WX
    have HC1 := Lib.hid WC
    clear WX WC e0
    go_loopw [17] (fun i wr => ∃ (k : Nat) (lk : List IsD) (vk : Value), k ≤ args.length ∧ i = .int .i64 k ∧ MkAt wr K p vi vf vo lv fl M vk ∧ IsO wr (K + 1) lk vk ∧ out ++ codeL f (ageF p l fl) (agoP op ago) args = lk ++ codeL f (ageF p l fl) (agoP op ago) (args.drop k) ∧ lk.length + nodesL (args.drop k) + 1 ≤ 100000 ∧
        wr.heap[w.heap.size]? = some (.cells #[.int .u8 op, .int .i64 n, .string nm, .slice a args.length cap] 41 (0, 0)) ∧ wr.heap[M]? = some o ∧ Chg (fun q => q = K ∨ ov.ownBlock = some q) w wr ∧ (∀ g, vk.ownBlock = some g → ov.ownBlock = some g ∨ w.heap.size < g)) (fun i _ => args.length - (intOf i).toNat)
    case atStart => exact ⟨0, out, ov, Nat.zero_le _, rfl, HK1.out, HO1.out, rfl, by simpa using (by omega : out.length + nodesL args + 1 ≤ 100000), HX1.out, HM1.out, HC1.out, fun g hg => .inl hg⟩
    case round =>
      clear HK1 HO1 HM1 HX1 HC1
      obtain ⟨k, lk, vk, hk, rfl, rK, rO, hgl, hll, rX, rM, rC, rG⟩ := hrel
      have HGL := Lib.hid hgl
      have HRO := Lib.hid rO
      have HRK := Lib.hid rK
      have HRM := Lib.hid rM
      have hKw2 := rC.size
      have E1 : Ext wI wr := put_ext hE hKI hO rC
      obtain ⟨av, cv, rfl⟩ := rO.form
      clear hgl rO rM
      by_cases hlt : k < args.length
      case pos =>
        have hx := List.getElem?_eq_getElem hlt
        have hix := HI.out _ (List.getElem_mem hlt)
        obtain ⟨b, oo, v0, rfl, _, hb, y0, y1, y2, y3, _, _, hsn, hvx⟩ := HV0.out.get hx
        have c0 := Ext.cell E1 y0
        have c1 := Ext.cell E1 y1
        have c2 := Ext.cell E1 y2
        have c3 := Ext.cell E1 y3
        have hn1 := nodesL_at hx
        have hwx := wfL_get hwl hx
        have hg1 : codeL f (ageF p l fl) (agoP op ago) (args.drop k) = codeE f (ageF p l fl) (agoP op ago) args[k] ++ codeL f (ageF p l fl) (agoP op ago) (args.drop (k + 1)) := by rw [List.drop_eq_getElem_cons hlt]; rw [codeL]
        have q1 : (k : Int) < (args.length : Int) := by omega
        generalize args[k] = x at *
        have hle := codeE_len f (ageF p l fl) (agoP op ago) x
        obtain ⟨a2, cap2, rfl, _⟩ := hvx.form
        have e2 : Ext wr (wr.alloc (.cells #[.int .u8 x.op, .int .i64 x.n, .string x.name, .slice a2 x.args.length cap2] 41)) := (Chg.refl _ _).alloc _
        have hcall : ∀ a1 : Int, agoP op ago = a1 → _ := fun a1 ha1 => hix _ vi vf vo lv (.slice av lk.length cv) wI (wr.alloc (.cells #[.int .u8 x.op, .int .i64 x.n, .string x.name, .slice a2 x.args.length cap2] 41)) K M nn d' o lk a1 hvx hsn hwx HPE.out (E1.trans e2) (Ext.heap e2 HRM.out) (Ext.heap e2 HRK.out) (HRO.out.ext e2) (by omega)
        have HCa := Lib.hid hcall
        have HG1 := Lib.hid hg1
        have HRX := Lib.hid (Ext.heap e2 rX)
        have HOX := Lib.hid (HRO.out.ext e2)
        have HMX := Lib.hid (Ext.heap e2 HRM.out)
        have hXl := lt_of_block rX
        have x3 := (blk_cell rX 3).trans rfl
        simp only [List.getElem?_toArray, List.getElem?_cons_zero, List.getElem?_cons_succ] at x3
        clear hcall hix hx hvx hg1 rX y0 y1 y2 y3 hwx
        go_wp2_with fail
        refine (HCa.out _ HA.out).mono ?_
        rintro e w4 ⟨v4, rfl, K4, O4, C4, G4⟩
        rw [← HA.out] at O4
        have hsz4 := C4.size
        simp only [World.size_alloc] at hsz4 G4
        have X4 := put_blk HRX.out (by omega) (fun g hg e => by subst e; rcases rG _ hg with h | h; exact absurd (World.ownsRow.lt hO _ h).2 (by omega); omega) C4
        have M4 := put_map HMX.out hMK HOX.out C4
        have C5 : Chg (fun q => q = K ∨ ov.ownBlock = some q) w w4 := chg_own (rC.trans ((Chg.refl _ _).alloc _)) C4 (fun g hg => (rG g hg).imp id (fun h => by omega))
        have G5 : ∀ g, v4.ownBlock = some g → ov.ownBlock = some g ∨ w.heap.size < g := fun g hg => by
          rcases G4 g hg with h | h
          · exact rG g h
          · exact .inr (by omega)
        have hG : Hid (out ++ codeL f (ageF p l fl) (agoP op ago) args = (lk ++ codeE f (ageF p l fl) (agoP op ago) x) ++ codeL f (ageF p l fl) (agoP op ago) (args.drop (k + 1))) := by
          show _ = _
          rw [HGL.out, HG1.out, List.append_assoc]
        have hl5 : (lk ++ codeE f (ageF p l fl) (agoP op ago) x).length + nodesL (args.drop (k + 1)) + 1 ≤ 100000 := by rw [List.length_append]; omega
        have HL5 := Lib.hid hl5
        have HK4 := Lib.hid K4
        have HO4 := Lib.hid O4
        clear G4 C4 K4 O4 hl5 HCa HG1 HRX HOX HMX HGL rC rG x3 e2 E1
        go_wp2_with fail
        go_roundw
        case rel => exact ⟨k + 1, _, v4, by omega, by go_num, HK4.out, HO4.out, hG.out, HL5.out, X4, M4, C5, G5⟩
        case measure => simp [intOf]; omega
      obtain rfl : k = args.length := by omega
      have hfull : lk = out ++ codeL f (ageF p l fl) (agoP op ago) args := by rw [HGL.out, List.drop_length]; simp [codeL]
      have HF := Lib.hid hfull
      have hll2 : lk.length + 1 ≤ 100000 := by omega
      clear hfull HGL
      have hXl := lt_of_block rX
      have rXX := rX

      have x0 : ∀ X, Ext wr X → X.cell? ⟨w.heap.size, 0, none⟩ = some (.int .u8 op) := fun X hX => (blk_cell (Ext.heap hX rX) 0).trans rfl
      have x1 : ∀ X, Ext wr X → X.cell? ⟨w.heap.size, 1, none⟩ = some (.int .i64 n) := fun X hX => (blk_cell (Ext.heap hX rX) 1).trans rfl
      have er : Ext wr wr := Chg.refl _ _

      go_upto_region 9 with (fail)
      generalize hwI2 : wr.alloc _ = wi
      obtain ⟨sI, bI, eI⟩ := chain1 hwI2
      clear hwI2
      have BX := Ext.heap eI rX
      have BM := Ext.heap eI HRM.out
      have BK := Ext.heap eI HRK.out
      have BO := HRO.out.ext eI
      have CI := rC.trans ((eI.mono (fun _ _ h => h.elim)))
      have EI := E1.trans eI
      generalize hIs : wr.heap.size = I at *
      have hKI2 : K ≠ I := by omega
      have hxI : w.heap.size ≠ I := by omega
      have HRO0 := HRO
      have HRM0 := HRM
      have HBX := Lib.hid BX
      have HBM := Lib.hid BM
      have HBK := Lib.hid BK
      have HBO := Lib.hid BO
      have HBI := Lib.hid bI
      have HCI := Lib.hid CI
      have HEI := Lib.hid EI
      clear BX BM BK BO CI EI bI rX rXX HRM HRK HRO rC E1 x0 x1 er eI sI
      have z0 : ∀ X, Ext wi X → X.cell? ⟨w.heap.size, 0, none⟩ = some (.int .u8 op) := fun X hX => (blk_cell (Ext.heap hX HBX.out) 0).trans rfl
      have er : Ext wi wi := Chg.refl _ _
      have fI := blk_free HBI.out 2
      have cI := (blk_cell HBI.out 2).trans rfl
      simp only [List.getElem?_toArray, List.getElem?_cons_zero, List.getElem?_cons_succ] at cI
      have CI2 := (Chg.refl (fun q => q = I) wi).setCell ⟨I, 2, none⟩ (.int .i64 ago) (.inl (Eq.refl I))
      have HVI0 := blk_set HBI.out 2 (.int .i64 ago)
      have HVK0 := CI2.heap HBK.out hKI2
      have HVO0 := HBO.out.chg CI2 (fun g hg h => by have := (World.ownsRow.lt HRO0.out g hg).2; omega)
      have HCV0 : Chg (fun q => q = K ∨ ov.ownBlock = some q) w (wi.setCell ⟨I, 2, none⟩ (.int .i64 ago)) := setI_chg HCI.out CI2 (by omega)
      go_upto_region 16 with (fail)
      generalize hV : wi.setCell ⟨I, 2, none⟩ (.int .i64 ago) = V at *
      have HVI : Hid (V.heap[I]? = some (.cells #[.int .u8 op, .int .i64 n, .int .i64 ago] 53 (0, 0))) := by show _ = _; rw [HVI0]; rfl
      have HVK := Lib.hid HVK0
      have HVO := Lib.hid HVO0
      have HCV := Lib.hid HCV0
      clear HVI0 HVK0 HVO0 HCV0 hV CI2 fI cI z0 er

      have hown0 := World.ownsRow.lt HRO0.out
      have hnK : ∀ q, (Value.slice av lk.length cv).ownBlock = some q → ¬ q = K := fun q hq h => by have := (hown0 q hq).1; omega
      have hnI : ∀ q, (Value.slice av lk.length cv).ownBlock = some q → ¬ q = I := fun q hq h => by have := (hown0 q hq).2; omega
      have sK : ∀ X, Chg (fun q => (Value.slice av lk.length cv).ownBlock = some q) V X → MkAt X K p vi vf vo lv fl M (.slice av lk.length cv) := fun X hX => hX.heap HVK.out (fun h => hnK _ h rfl)
      have sI : ∀ X, Chg (fun q => (Value.slice av lk.length cv).ownBlock = some q) V X → X.heap[I]? = some (.cells #[.int .u8 op, .int .i64 n, .int .i64 ago] 53 (0, 0)) := fun X hX => hX.heap HVI.out (fun h => hnI _ h rfl)
      have SK := Lib.hid sK
      have SI := Lib.hid sI
      have k7 : ∀ X, Chg (fun q => (Value.slice av lk.length cv).ownBlock = some q) V X → X.cell? ⟨K, 7, none⟩ = some (.slice av lk.length cv) := fun X hX => (blk_cell (SK.out X hX) 7).trans rfl
      have f7 : ∀ X, Chg (fun q => (Value.slice av lk.length cv).ownBlock = some q) V X → X.frozen? ⟨K, 7, none⟩ = false := fun X hX => blk_free (SK.out X hX) 7
      have i0 : ∀ X, Chg (fun q => (Value.slice av lk.length cv).ownBlock = some q) V X → X.cell? ⟨I, 0, none⟩ = some (.int .u8 op) := fun X hX => (blk_cell (SI.out X hX) 0).trans rfl
      have i1 : ∀ X, Chg (fun q => (Value.slice av lk.length cv).ownBlock = some q) V X → X.cell? ⟨I, 1, none⟩ = some (.int .i64 n) := fun X hX => (blk_cell (SI.out X hX) 1).trans rfl
      have i2 : ∀ X, Chg (fun q => (Value.slice av lk.length cv).ownBlock = some q) V X → X.cell? ⟨I, 2, none⟩ = some (.int .i64 ago) := fun X hX => (blk_cell (SI.out X hX) 2).trans rfl
      have G0 : Chg (fun q => (Value.slice av lk.length cv).ownBlock = some q) V V := Chg.refl _ _
      have ed : ∀ X, Chg (fun q => (Value.slice av lk.length cv).ownBlock = some q) V X → Chg (fun q => (Value.slice av lk.length cv).ownBlock = some q) V X.drew := fun X hX => hX.drew
      have ea : ∀ X ob, Chg (fun q => (Value.slice av lk.length cv).ownBlock = some q) V X → Chg (fun q => (Value.slice av lk.length cv).ownBlock = some q) V (X.alloc ob) := fun X ob hX => hX.alloc ob
      have G1 := ed _ G0
      obtain ⟨ti, hinf, hz0, hz1, hz2⟩ := info_parts infoIs
      have hvs : w.heap.size ≤ V.heap.size := HCV.out.size
      have hIV := lt_of_block HVI.out
      have HOV2 := Lib.hid (ownsRow_ext HVO.out ((Chg.refl (fun _ => False) V).drew))
      have hKV : K + 1 ≤ V.heap.size := by have := lt_of_block HVK.out; omega
      clear sK sI hown0
      go_region_law (refine step_append_lies _ (by rfl) _ _ 44 (by rfl) (K + 1) 53 ti _ 3 24 Tryz.underlying44 hinf hz0 hz1 hz2 rfl (by decide) (.slice av lk.length cv) lk.length (lk.flatMap isC) (by rfl) (ownsRow_ext HOV2.out ((Chg.refl _ _).alloc _)) ⟨V.drew.heap.size, 0, none⟩ 1 1 [.int .u8 op, .int .i64 n, .int .i64 ago] (by rfl) rfl (World.news_of_block (heap_alloc_new V.drew _)) (by simp [Value.oneCell']) (by decide) (by unfold maxLen; omega) (by omega) (by simp; omega) _ rfl ?_; intro g4 cap4 w4 hown4 hgrow4 hat4 hlt4; have D4a := Chg.of_grownBy hgrow4; have D4 : Chg (fun q => (Value.slice av lk.length cv).ownBlock = some q) V w4 := (ea _ _ (ed _ G0)).trans D4a; have c74 := k7 w4 D4; have f74 := f7 w4 D4)
      all_goals (
        have hat5 : (Value.slice av lk.length cv).ownBlock = some g4 ∨ V.heap.size ≤ g4 := hat4.imp id (fun h => by rw [h]; simp)
        have hgK : ¬ g4 = K := by
          rcases hat5 with h | h
          · exact hnK _ h
          · omega
        have hIO : IsO w4 (K + 1) (lk ++ [⟨op, n, ago⟩]) (.slice (some ⟨g4, 0, none⟩) (lk.length + 1) cap4) := IsO.snoc hown4
        have C8 : Chg (fun q => q = K) w4 (w4.setCell ⟨K, 7, none⟩ (.slice (some ⟨g4, 0, none⟩) (lk.length + 1) cap4)) := (Chg.refl _ _).setCell _ _ (.inl (Eq.refl K))
        have R1 := Lib.hid (mk_set (ov' := .slice (some ⟨g4, 0, none⟩) (lk.length + 1) cap4) (SK.out w4 D4))
        have R2 : Hid (IsO (w4.setCell ⟨K, 7, none⟩ (.slice (some ⟨g4, 0, none⟩) (lk.length + 1) cap4)) (K + 1) (out ++ codeE f (ageF p l fl) ago (.mk op n nm args)) (.slice (some ⟨g4, 0, none⟩) (lk.length + 1) cap4)) := by
          show IsO _ _ _ _
          rw [HCE2.out, HL.out, ← List.append_assoc, ← HF.out]
          exact hIO.chg C8 (fun g hg h => by simp only [Value.ownBlock, Option.some.injEq] at hg; exact hgK (hg.trans h))
        have D5 : Chg (fun q => q = K ∨ ov.ownBlock = some q) w w4 := chg_own HCV.out (D4.mono (T := fun q => q = K ∨ (Value.slice av lk.length cv).ownBlock = some q) (fun _ _ h => .inr h)) (fun g hg => (rG g hg).imp id (fun h => by omega))
        have R3 := Lib.hid (D5.trans (C8.mono (T := fun q => q = K ∨ ov.ownBlock = some q) (fun _ _ h => .inl h)))
        have R4 : Hid (∀ g, (Value.slice (some ⟨g4, 0, none⟩) (lk.length + 1) cap4).ownBlock = some g → ov.ownBlock = some g ∨ w.heap.size ≤ g) := fun g hg => by
          simp only [Value.ownBlock, Option.some.injEq] at hg
          subst hg
          rcases hat5 with h | h
          · exact (rG _ h).imp id (fun h => by omega)
          · exact .inr (by omega)
        clear hIO C8 D5 hat5 hat4 hown4 hgrow4 D4 D4a rG k7 f7 i0 i1 i2 ed ea SK SI
        go_wp2_with fail
        refine bodyPost_end (results_none rfl _ _ _) rfl ⟨_, rfl, R1.out, R2.out, R3.out, R4.out⟩)

  have b18 : (op == 18) = false := by simpa using h18
  have HL : Hid (lastI f (ageF p l fl) op n nm ago = ⟨op, n, 0⟩) := lastI_x h3 h18
  clear h3 h18 h19

  go_enter Tryz.func35, Tryz.ntmps35
  have WX := heap_alloc_new w (.cells #[.int .u8 op, .int .i64 n, .string nm, .slice a args.length cap] 41)
  have WC : Chg (fun q => q = K ∨ ov.ownBlock = some q) w (w.alloc (.cells #[.int .u8 op, .int .i64 n, .string nm, .slice a args.length cap] 41)) := (Chg.refl _ _).alloc _
  have e0 : Ext w (w.alloc (.cells #[.int .u8 op, .int .i64 n, .string nm, .slice a args.length cap] 41)) := (Chg.refl _ _).alloc _
  have HK1 := Lib.hid (Ext.heap e0 hK)
  have HO1 := Lib.hid (hO.ext e0)
  have HM1 := Lib.hid (Ext.heap e0 hM)
  go_wp2_with fail
  generalize (w.alloc (.cells #[.int .u8 op, .int .i64 n, .string nm, .slice a args.length cap] 41)) = W at *
  have HX1 := Lib.hid WX
  have HC1 := Lib.hid WC
  clear WX WC e0
  go_loopw [17] (fun i wr => ∃ (k : Nat) (lk : List IsD) (vk : Value), k ≤ args.length ∧ i = .int .i64 k ∧ MkAt wr K p vi vf vo lv fl M vk ∧ IsO wr (K + 1) lk vk ∧ out ++ codeL f (ageF p l fl) (agoP op ago) args = lk ++ codeL f (ageF p l fl) (agoP op ago) (args.drop k) ∧ lk.length + nodesL (args.drop k) + 1 ≤ 100000 ∧
      wr.heap[w.heap.size]? = some (.cells #[.int .u8 op, .int .i64 n, .string nm, .slice a args.length cap] 41 (0, 0)) ∧ wr.heap[M]? = some o ∧ Chg (fun q => q = K ∨ ov.ownBlock = some q) w wr ∧ (∀ g, vk.ownBlock = some g → ov.ownBlock = some g ∨ w.heap.size < g)) (fun i _ => args.length - (intOf i).toNat)
  case atStart => exact ⟨0, out, ov, Nat.zero_le _, rfl, HK1.out, HO1.out, rfl, by simpa using (by omega : out.length + nodesL args + 1 ≤ 100000), HX1.out, HM1.out, HC1.out, fun g hg => .inl hg⟩
  case round =>
    clear HK1 HO1 HM1 HX1 HC1
    obtain ⟨k, lk, vk, hk, rfl, rK, rO, hgl, hll, rX, rM, rC, rG⟩ := hrel
    have HGL := Lib.hid hgl
    have HRO := Lib.hid rO
    have HRK := Lib.hid rK
    have HRM := Lib.hid rM
    have hKw2 := rC.size
    have E1 : Ext wI wr := put_ext hE hKI hO rC
    obtain ⟨av, cv, rfl⟩ := rO.form
    clear hgl rO rM
    by_cases hlt : k < args.length
    case pos =>
      have hx := List.getElem?_eq_getElem hlt
      have hix := HI.out _ (List.getElem_mem hlt)
      obtain ⟨b, oo, v0, rfl, _, hb, y0, y1, y2, y3, _, _, hsn, hvx⟩ := HV0.out.get hx
      have c0 := Ext.cell E1 y0
      have c1 := Ext.cell E1 y1
      have c2 := Ext.cell E1 y2
      have c3 := Ext.cell E1 y3
      have hn1 := nodesL_at hx
      have hwx := wfL_get hwl hx
      have hg1 : codeL f (ageF p l fl) (agoP op ago) (args.drop k) = codeE f (ageF p l fl) (agoP op ago) args[k] ++ codeL f (ageF p l fl) (agoP op ago) (args.drop (k + 1)) := by rw [List.drop_eq_getElem_cons hlt]; rw [codeL]
      have q1 : (k : Int) < (args.length : Int) := by omega
      generalize args[k] = x at *
      have hle := codeE_len f (ageF p l fl) (agoP op ago) x
      obtain ⟨a2, cap2, rfl, _⟩ := hvx.form
      have e2 : Ext wr (wr.alloc (.cells #[.int .u8 x.op, .int .i64 x.n, .string x.name, .slice a2 x.args.length cap2] 41)) := (Chg.refl _ _).alloc _
      have hcall : ∀ a1 : Int, agoP op ago = a1 → _ := fun a1 ha1 => hix _ vi vf vo lv (.slice av lk.length cv) wI (wr.alloc (.cells #[.int .u8 x.op, .int .i64 x.n, .string x.name, .slice a2 x.args.length cap2] 41)) K M nn d' o lk a1 hvx hsn hwx HPE.out (E1.trans e2) (Ext.heap e2 HRM.out) (Ext.heap e2 HRK.out) (HRO.out.ext e2) (by omega)
      have HCa := Lib.hid hcall
      have HG1 := Lib.hid hg1
      have HRX := Lib.hid (Ext.heap e2 rX)
      have HOX := Lib.hid (HRO.out.ext e2)
      have HMX := Lib.hid (Ext.heap e2 HRM.out)
      have hXl := lt_of_block rX
      have x3 := (blk_cell rX 3).trans rfl
      simp only [List.getElem?_toArray, List.getElem?_cons_zero, List.getElem?_cons_succ] at x3
      clear hcall hix hx hvx hg1 rX y0 y1 y2 y3 hwx
      go_wp2_with fail
      refine (HCa.out _ HA.out).mono ?_
      rintro e w4 ⟨v4, rfl, K4, O4, C4, G4⟩
      rw [← HA.out] at O4
      have hsz4 := C4.size
      simp only [World.size_alloc] at hsz4 G4
      have X4 := put_blk HRX.out (by omega) (fun g hg e => by subst e; rcases rG _ hg with h | h; exact absurd (World.ownsRow.lt hO _ h).2 (by omega); omega) C4
      have M4 := put_map HMX.out hMK HOX.out C4
      have C5 : Chg (fun q => q = K ∨ ov.ownBlock = some q) w w4 := chg_own (rC.trans ((Chg.refl _ _).alloc _)) C4 (fun g hg => (rG g hg).imp id (fun h => by omega))
      have G5 : ∀ g, v4.ownBlock = some g → ov.ownBlock = some g ∨ w.heap.size < g := fun g hg => by
        rcases G4 g hg with h | h
        · exact rG g h
        · exact .inr (by omega)
      have hG : Hid (out ++ codeL f (ageF p l fl) (agoP op ago) args = (lk ++ codeE f (ageF p l fl) (agoP op ago) x) ++ codeL f (ageF p l fl) (agoP op ago) (args.drop (k + 1))) := by
        show _ = _
        rw [HGL.out, HG1.out, List.append_assoc]
      have hl5 : (lk ++ codeE f (ageF p l fl) (agoP op ago) x).length + nodesL (args.drop (k + 1)) + 1 ≤ 100000 := by rw [List.length_append]; omega
      have HL5 := Lib.hid hl5
      have HK4 := Lib.hid K4
      have HO4 := Lib.hid O4
      clear G4 C4 K4 O4 hl5 HCa HG1 HRX HOX HMX HGL rC rG x3 e2 E1
      go_wp2_with fail
      go_roundw
      case rel => exact ⟨k + 1, _, v4, by omega, by go_num, HK4.out, HO4.out, hG.out, HL5.out, X4, M4, C5, G5⟩
      case measure => simp [intOf]; omega
    obtain rfl : k = args.length := by omega
    have hfull : lk = out ++ codeL f (ageF p l fl) (agoP op ago) args := by rw [HGL.out, List.drop_length]; simp [codeL]
    have HF := Lib.hid hfull
    have hll2 : lk.length + 1 ≤ 100000 := by omega
    clear hfull HGL
    have hXl := lt_of_block rX
    have rXX := rX

    have x0 : ∀ X, Ext wr X → X.cell? ⟨w.heap.size, 0, none⟩ = some (.int .u8 op) := fun X hX => (blk_cell (Ext.heap hX rX) 0).trans rfl
    have x1 : ∀ X, Ext wr X → X.cell? ⟨w.heap.size, 1, none⟩ = some (.int .i64 n) := fun X hX => (blk_cell (Ext.heap hX rX) 1).trans rfl
    have er : Ext wr wr := Chg.refl _ _

    go_upto_region 9 with (fail)
    generalize hwI2 : wr.alloc _ = wi
    obtain ⟨sI, bI, eI⟩ := chain1 hwI2
    clear hwI2
    have BX := Ext.heap eI rX
    have BM := Ext.heap eI HRM.out
    have BK := Ext.heap eI HRK.out
    have BO := HRO.out.ext eI
    have CI := rC.trans ((eI.mono (fun _ _ h => h.elim)))
    have EI := E1.trans eI
    generalize hIs : wr.heap.size = I at *
    have hKI2 : K ≠ I := by omega
    have hxI : w.heap.size ≠ I := by omega
    have HRO0 := HRO
    have HRM0 := HRM
    have HBX := Lib.hid BX
    have HBM := Lib.hid BM
    have HBK := Lib.hid BK
    have HBO := Lib.hid BO
    have HBI := Lib.hid bI
    have HCI := Lib.hid CI
    have HEI := Lib.hid EI
    clear BX BM BK BO CI EI bI rX rXX HRM HRK HRO rC E1 x0 x1 er eI sI
    have z0 : ∀ X, Ext wi X → X.cell? ⟨w.heap.size, 0, none⟩ = some (.int .u8 op) := fun X hX => (blk_cell (Ext.heap hX HBX.out) 0).trans rfl
    have er : Ext wi wi := Chg.refl _ _
    have HVK := HBK
    have HVI := HBI
    have HVO := HBO
    have HCV := HCI
    go_upto_region 16 with (fail)

    have hown0 := World.ownsRow.lt HRO0.out
    have hnK : ∀ q, (Value.slice av lk.length cv).ownBlock = some q → ¬ q = K := fun q hq h => by have := (hown0 q hq).1; omega
    have hnI : ∀ q, (Value.slice av lk.length cv).ownBlock = some q → ¬ q = I := fun q hq h => by have := (hown0 q hq).2; omega
    have sK : ∀ X, Chg (fun q => (Value.slice av lk.length cv).ownBlock = some q) wi X → MkAt X K p vi vf vo lv fl M (.slice av lk.length cv) := fun X hX => hX.heap HVK.out (fun h => hnK _ h rfl)
    have sI : ∀ X, Chg (fun q => (Value.slice av lk.length cv).ownBlock = some q) wi X → X.heap[I]? = some (.cells #[.int .u8 op, .int .i64 n, .int .i64 0] 53 (0, 0)) := fun X hX => hX.heap HVI.out (fun h => hnI _ h rfl)
    have SK := Lib.hid sK
    have SI := Lib.hid sI
    have k7 : ∀ X, Chg (fun q => (Value.slice av lk.length cv).ownBlock = some q) wi X → X.cell? ⟨K, 7, none⟩ = some (.slice av lk.length cv) := fun X hX => (blk_cell (SK.out X hX) 7).trans rfl
    have f7 : ∀ X, Chg (fun q => (Value.slice av lk.length cv).ownBlock = some q) wi X → X.frozen? ⟨K, 7, none⟩ = false := fun X hX => blk_free (SK.out X hX) 7
    have i0 : ∀ X, Chg (fun q => (Value.slice av lk.length cv).ownBlock = some q) wi X → X.cell? ⟨I, 0, none⟩ = some (.int .u8 op) := fun X hX => (blk_cell (SI.out X hX) 0).trans rfl
    have i1 : ∀ X, Chg (fun q => (Value.slice av lk.length cv).ownBlock = some q) wi X → X.cell? ⟨I, 1, none⟩ = some (.int .i64 n) := fun X hX => (blk_cell (SI.out X hX) 1).trans rfl
    have i2 : ∀ X, Chg (fun q => (Value.slice av lk.length cv).ownBlock = some q) wi X → X.cell? ⟨I, 2, none⟩ = some (.int .i64 0) := fun X hX => (blk_cell (SI.out X hX) 2).trans rfl
    have G0 : Chg (fun q => (Value.slice av lk.length cv).ownBlock = some q) wi wi := Chg.refl _ _
    have ed : ∀ X, Chg (fun q => (Value.slice av lk.length cv).ownBlock = some q) wi X → Chg (fun q => (Value.slice av lk.length cv).ownBlock = some q) wi X.drew := fun X hX => hX.drew
    have ea : ∀ X ob, Chg (fun q => (Value.slice av lk.length cv).ownBlock = some q) wi X → Chg (fun q => (Value.slice av lk.length cv).ownBlock = some q) wi (X.alloc ob) := fun X ob hX => hX.alloc ob
    have G1 := ed _ G0
    obtain ⟨ti, hinf, hz0, hz1, hz2⟩ := info_parts infoIs
    have hvs : w.heap.size ≤ wi.heap.size := HCV.out.size
    have hIV := lt_of_block HVI.out
    have HOV2 := Lib.hid (ownsRow_ext HVO.out ((Chg.refl (fun _ => False) wi).drew))
    have hKV : K + 1 ≤ wi.heap.size := by have := lt_of_block HVK.out; omega
    clear sK sI hown0
    go_region_law (refine step_append_lies _ (by rfl) _ _ 44 (by rfl) (K + 1) 53 ti _ 3 24 Tryz.underlying44 hinf hz0 hz1 hz2 rfl (by decide) (.slice av lk.length cv) lk.length (lk.flatMap isC) (by rfl) (ownsRow_ext HOV2.out ((Chg.refl _ _).alloc _)) ⟨wi.drew.heap.size, 0, none⟩ 1 1 [.int .u8 op, .int .i64 n, .int .i64 0] (by rfl) rfl (World.news_of_block (heap_alloc_new wi.drew _)) (by simp [Value.oneCell']) (by decide) (by unfold maxLen; omega) (by omega) (by simp; omega) _ rfl ?_; intro g4 cap4 w4 hown4 hgrow4 hat4 hlt4; have D4a := Chg.of_grownBy hgrow4; have D4 : Chg (fun q => (Value.slice av lk.length cv).ownBlock = some q) wi w4 := (ea _ _ (ed _ G0)).trans D4a; have c74 := k7 w4 D4; have f74 := f7 w4 D4)
    all_goals (
      have hat5 : (Value.slice av lk.length cv).ownBlock = some g4 ∨ wi.heap.size ≤ g4 := hat4.imp id (fun h => by rw [h]; simp)
      have hgK : ¬ g4 = K := by
        rcases hat5 with h | h
        · exact hnK _ h
        · omega
      have hIO : IsO w4 (K + 1) (lk ++ [⟨op, n, 0⟩]) (.slice (some ⟨g4, 0, none⟩) (lk.length + 1) cap4) := IsO.snoc hown4
      have C8 : Chg (fun q => q = K) w4 (w4.setCell ⟨K, 7, none⟩ (.slice (some ⟨g4, 0, none⟩) (lk.length + 1) cap4)) := (Chg.refl _ _).setCell _ _ (.inl (Eq.refl K))
      have R1 := Lib.hid (mk_set (ov' := .slice (some ⟨g4, 0, none⟩) (lk.length + 1) cap4) (SK.out w4 D4))
      have R2 : Hid (IsO (w4.setCell ⟨K, 7, none⟩ (.slice (some ⟨g4, 0, none⟩) (lk.length + 1) cap4)) (K + 1) (out ++ codeE f (ageF p l fl) ago (.mk op n nm args)) (.slice (some ⟨g4, 0, none⟩) (lk.length + 1) cap4)) := by
        show IsO _ _ _ _
        rw [HCE2.out, HL.out, ← List.append_assoc, ← HF.out]
        exact hIO.chg C8 (fun g hg h => by simp only [Value.ownBlock, Option.some.injEq] at hg; exact hgK (hg.trans h))
      have D5 : Chg (fun q => q = K ∨ ov.ownBlock = some q) w w4 := chg_own HCV.out (D4.mono (T := fun q => q = K ∨ (Value.slice av lk.length cv).ownBlock = some q) (fun _ _ h => .inr h)) (fun g hg => (rG g hg).imp id (fun h => by omega))
      have R3 := Lib.hid (D5.trans (C8.mono (T := fun q => q = K ∨ ov.ownBlock = some q) (fun _ _ h => .inl h)))
      have R4 : Hid (∀ g, (Value.slice (some ⟨g4, 0, none⟩) (lk.length + 1) cap4).ownBlock = some g → ov.ownBlock = some g ∨ w.heap.size ≤ g) := fun g hg => by
        simp only [Value.ownBlock, Option.some.injEq] at hg
        subst hg
        rcases hat5 with h | h
        · exact (rG _ h).imp id (fun h => by omega)
        · exact .inr (by omega)
      clear hIO C8 D5 hat5 hat4 hown4 hgrow4 D4 D4a rG k7 f7 i0 i1 i2 ed ea SK SI
      go_wp2_with fail
      refine bodyPost_end (results_none rfl _ _ _) rfl ⟨_, rfl, R1.out, R2.out, R3.out, R4.out⟩)
end Go.Proofs.YtgkbhonjodcakaaGreat
