/- MembersSame: the walk. -/
import Derived.Test.YtpkeclkfgfkddaaSame
import Derived.Deep.RegionHeld3
import Derived.RangeFuncBox
import Derived.Maps.AppendAt
namespace Go.Proofs.Ytpkeclkfgfkddaa
open Go.RowKit
set_option linter.unusedVariables false

theorem info24 : (Try.prog.info? 24).map (fun i => (i.zero, i.size, i.bytes)) = some (some (.pointer none), 1, 8) := by kernel_rfl
def gp (B : Nat → Nat) (j : Nat) : Value := .pointer (some ⟨B j, 0, none⟩)
/-- The first k groups: each its own block, new since the call. -/
structure Groups (w0 w : World) (n k : Nat) (B : Nat → Nat) : Prop where
  lo : ∀ j, j < k → w0.heap.size ≤ B j
  inj : ∀ i j, i < k → j < k → B i = B j → i = j
  gr : ∀ j, j < k → Gr w (B j) n j (fun q => decide (q < n)) (fun _ => 0)

theorem same_grow {w w1 w2 : World} {v : Value} {B : Nat} (h : Chg (fun _ => False) w w1) (hg : w1.grownBy w2 v.ownBlock) (hv : ∀ q, v.ownBlock = some q → B ≤ q) (hB : w.heap.size ≤ B) : Chg (fun _ => False) w w2 :=
  ⟨hg.os.trans h.os, hg.tape.trans h.tape, hg.output.trans h.output, Nat.le_trans h.size hg.size, fun k hk hn => by
    have := h.size
    exact (hg.block k (by omega) (fun e => by have := hv k e.symm; omega)).trans (h.block k hk hn)⟩
theorem same_chg {w1 w2 : World} {v : Value} {o : Obj} (hg : (w1.alloc o).grownBy w2 v.ownBlock) : Chg (fun q => v.ownBlock = some q) w1 w2 :=
  ⟨hg.os, hg.tape, hg.output, by have := hg.size; simp at this; omega, fun k hk hn => (hg.block k (by simp; omega) (fun e => hn e.symm)).trans (Below.heap_alloc _ _ _ hk)⟩
theorem own_ne {w : World} {base n : Nat} {v : Value} {xs : List Value} (h : w.ownsRow base 24 1 v n xs) {b m s : Nat} {f : Nat → Bool} {r : Nat → Int} (hg : Gr w b m s f r) : v.ownBlock ≠ some b := by
  rcases h.2 with ⟨rfl, _⟩ | ⟨g, cap, cur, rfl, _, hb, _⟩
  · simp [Value.ownBlock]
  · intro e
    simp only [Value.ownBlock, Option.some.injEq] at e
    subst e
    rw [hg.blk] at hb
    simp at hb
theorem gp_step (B : Nat → Nat) (k b : Nat) : (List.range (k + 1)).map (gp (upd B k b)) = (List.range k).map (gp B) ++ [.pointer (some ⟨b, 0, none⟩)] := by
  rw [List.range_succ, List.map_append]
  congr 1
  · refine List.map_congr_left fun j hj => ?_
    have : j < k := by simpa using hj
    unfold gp upd; rw [if_neg (by omega)]
  · simp [gp, upd]
theorem groups_step {w0 w w1 : World} {n k : Nat} {B : Nat → Nat} (h : Groups w0 w n k B) (hg : Gr w1 w.heap.size n k (fun q => decide (q < n)) (fun _ => 0)) (hc : Chg (fun _ => False) w w1) (hs : w0.heap.size ≤ w.heap.size) :
    Groups w0 w1 n (k + 1) (upd B k w.heap.size) := by
  have hlt : ∀ j, j < k → B j < w.heap.size := fun j hj => lt_of_block (h.gr j hj).blk
  refine ⟨fun j hj => ?_, fun i j hi hj e => ?_, fun j hj => ?_⟩
  · unfold upd; split
    · exact hs
    · exact h.lo j (by omega)
  · unfold upd at e
    by_cases hik : i = k
    · by_cases hjk : j = k
      · omega
      · rw [if_pos hik, if_neg hjk] at e; have := hlt j (by omega); omega
    · by_cases hjk : j = k
      · rw [if_neg hik, if_pos hjk] at e; have := hlt i (by omega); omega
      · rw [if_neg hik, if_neg hjk] at e; exact h.inj i j (by omega) (by omega) e
  · unfold upd; split
    · rename_i e; subst e; exact hg
    · exact (h.gr j (by omega)).chg hc (fun h => h)
theorem groups_own {w0 w w1 : World} {n k m base : Nat} {B : Nat → Nat} {v : Value} {xs : List Value} {o : Obj} (h : Groups w0 w n k B) (ho : w.ownsRow base 24 1 v m xs) (hg : (w.alloc o).grownBy w1 v.ownBlock) : Groups w0 w1 n k B :=
  ⟨h.lo, h.inj, fun j hj => (h.gr j hj).chg (S := fun q => v.ownBlock = some q) (same_chg hg) (own_ne ho (h.gr j hj))⟩
def acells (x : Nat → Int) : Array Value := #[.int .u8 (x 0), .int .u8 (x 1), .int .u8 (x 2), .int .u8 (x 3), .int .u8 (x 4), .int .u8 (x 5), .int .u8 (x 6), .int .u8 (x 7)]
theorem acell {w : World} {X : Nat} {x : Nat → Int} {t : TypeId} (h : w.heap[X]? = some (.cells (acells x) t (0, 0))) (k : Nat) (hk : k < 8) : w.cell? ⟨X, k, none⟩ = some (.int .u8 (x k)) := by
  rw [blk_cell h]; rcases eight hk with rfl | rfl | rfl | rfl | rfl | rfl | rfl | rfl <;> rfl
theorem aset {w : World} {X : Nat} {x : Nat → Int} {t : TypeId} (h : w.heap[X]? = some (.cells (acells x) t (0, 0))) (k : Nat) (hk : k < 8) (v : Int) : (w.setCell ⟨X, k, none⟩ (.int .u8 v)).heap[X]? = some (.cells (acells (upd x k v)) t (0, 0)) := by
  rw [blk_set h]; rcases eight hk with rfl | rfl | rfl | rfl | rfl | rfl | rfl | rfl <;> rfl
/-- All groups in memory, told by their blocks: of those that are not silent it is known who is there and what they were told. -/
structure Fam (w0 w : World) (n : Nat) (B : Nat → Nat) (L : Nat) (sil : Nat → Bool) (F : Nat → Nat → Bool) (R : Nat → Nat → Int) : Prop where
  lo : ∀ j, j < n → w0.heap.size ≤ B j
  inj : ∀ i j, i < n → j < n → B i = B j → i = j
  row : ∃ cur, w.heap[L]? = some (.cells cur 24 (0, 0)) ∧ ∀ j, j < n → cur[j]? = some (gp B j)
  rlo : w0.heap.size ≤ L
  gr : ∀ j, j < n → ∃ f r, Gr w (B j) n j f r ∧ (sil j = false → f = F j ∧ r = R j)
  chg : Chg (fun _ => False) w0 w
section
variable {w0 w w1 : World} {n : Nat} {B : Nat → Nat} {L : Nat} {sil sil' : Nat → Bool} {F F' : Nat → Nat → Bool} {R R' : Nat → Nat → Int}
theorem Fam.cell (h : Fam w0 w n B L sil F R) (j : Nat) (hj : j < n) : w.cell? ⟨L, j, none⟩ = some (gp B j) := by
  obtain ⟨cur, h1, h2⟩ := h.row
  rw [blk_cell h1]; exact h2 j hj
theorem Fam.neL (h : Fam w0 w n B L sil F R) (j : Nat) (hj : j < n) : L ≠ B j := by
  obtain ⟨cur, h1, _⟩ := h.row
  obtain ⟨f, r, hg, _⟩ := h.gr j hj
  rintro e
  rw [e, hg.blk] at h1
  simp at h1
theorem Fam.far (h : Fam w0 w n B L sil F R) {S : Nat → Prop} (hc : Chg S w w1) (hL : ¬ S L) (hB : ∀ j, j < n → ¬ S (B j)) (hS : ∀ k, k < w0.heap.size → ¬ S k) : Fam w0 w1 n B L sil F R := by
  obtain ⟨cur, h1, h2⟩ := h.row
  refine ⟨h.lo, h.inj, ⟨cur, hc.heap h1 hL, h2⟩, h.rlo, fun j hj => ?_, ?_⟩
  · obtain ⟨f, r, hg, hf⟩ := h.gr j hj
    exact ⟨f, r, hg.chg hc (hB j hj), hf⟩
  · exact ⟨hc.os.trans h.chg.os, hc.tape.trans h.chg.tape, hc.output.trans h.chg.output, Nat.le_trans h.chg.size hc.size, fun k hk hn => by
      have := h.chg.size
      exact (hc.block k (by omega) (hS k hk)).trans (h.chg.block k hk hn)⟩
theorem Fam.drewN (h : Fam w0 w n B L sil F R) (m : Nat) : Fam w0 (w.drewN m) n B L sil F R := h.far (S := fun _ => False) ((Chg.refl _ _).drewN m) (fun h => h) (fun _ _ h => h) (fun _ _ h => h)
theorem Fam.turn (h : Fam w0 w n B L sil F R) (k : Nat) (hk : k < n) {f : Nat → Bool} {r : Nat → Int} (hg : Gr w1 (B k) n k f r) (hc : Chg (· = B k) w w1) (hF : F' k = f) (hR : R' k = r)
    (hF' : ∀ j, j < n → j ≠ k → F' j = F j) (hR' : ∀ j, j < n → j ≠ k → R' j = R j) : Fam w0 w1 n B L sil F' R' := by
  obtain ⟨cur, h1, h2⟩ := h.row
  refine ⟨h.lo, h.inj, ⟨cur, hc.heap h1 (h.neL k hk), h2⟩, h.rlo, fun j hj => ?_, ?_⟩
  · by_cases e : j = k
    · subst e; exact ⟨f, r, hg, fun _ => ⟨hF.symm, hR.symm⟩⟩
    · obtain ⟨f', r', hg', hf⟩ := h.gr j hj
      refine ⟨f', r', hg'.chg hc (fun e' => e (h.inj _ _ hj hk e')), fun hs => ?_⟩
      rw [hF' j hj e, hR' j hj e]; exact hf hs
  · exact ⟨hc.os.trans h.chg.os, hc.tape.trans h.chg.tape, hc.output.trans h.chg.output, Nat.le_trans h.chg.size hc.size, fun q hq hn => by
      have := h.chg.size
      have := h.lo k hk
      exact (hc.block q (by omega) (by omega)).trans (h.chg.block q hq hn)⟩
theorem Fam.ext (h : Fam w0 w n B L sil F R) (hs : ∀ j, j < n → sil' j = false → sil j = false) (hF : ∀ j, j < n → sil' j = false → F j = F' j) (hR : ∀ j, j < n → sil' j = false → R j = R' j) : Fam w0 w n B L sil' F' R' := by
  refine ⟨h.lo, h.inj, h.row, h.rlo, fun j hj => ?_, h.chg⟩
  obtain ⟨f, r, hg, hf⟩ := h.gr j hj
  refine ⟨f, r, hg, fun hs' => ?_⟩
  have := hf (hs j hj hs')
  exact ⟨this.1.trans (hF j hj hs'), this.2.trans (hR j hj hs')⟩
end
theorem fam_start {w0 w : World} {n : Nat} {B : Nat → Nat} {v : Value} (h : Groups w0 w n n B) (ho : w.ownsRow w0.heap.size 24 1 v n ((List.range n).map (gp B))) (hn : 1 ≤ n) (hC : Chg (fun _ => False) w0 w) :
    ∃ L cap, v = .slice (some ⟨L, 0, none⟩) n cap ∧ Fam w0 w n B L (fun _ => false) (fun _ => loud n (fun _ => false)) (fun _ _ => 0) := by
  rcases ho.2 with ⟨_, h0⟩ | ⟨g, cap, cur, rfl, hb, hg, hcap, _, hsz, htake⟩
  · omega
  · refine ⟨g, cap, rfl, h.lo, h.inj, ⟨cur, hg, fun j hj => ?_⟩, hb, fun j hj => ⟨_, _, h.gr j hj, fun _ => ⟨?_, rfl⟩⟩, hC⟩
    · have e : (cur.toList.take (n * 1))[j]? = some (gp B j) := by
        rw [htake]; simp [hj]
      rw [List.getElem?_take, if_pos (by omega)] at e
      simpa using e
    · funext q; simp [loud]

set_option maxRecDepth 100000 in
set_option maxHeartbeats 4000000 in
theorem same_any (st : Int) (a : Option Addr) (len cap : Nat) (xs : Nat → Int) (w : World) (hst : 0 ≤ st ∧ st ≤ 255)
    (hx : ∀ i, i < len → ∃ ad : Addr, a = some ad ∧ ad.spot = none ∧ ad.block < w.heap.size ∧ w.cell? ⟨ad.block, ad.off + i, none⟩ = some (.int .u8 (xs i)) ∧ 0 ≤ xs i ∧ xs i ≤ 255) :
    Calls Try.prog 5 #[.int .u8 st, .slice a len cap] w fun e w' => e = .returned (.bool true) ∧ Chg (fun _ => False) w w' := by
  obtain ⟨n, hn⟩ : ∃ n : Nat, 1 + st % 8 = (n : Int) := ⟨(1 + st % 8).toNat, by omega⟩
  have h1 : 1 ≤ n := by omega
  have h8 : n ≤ 8 := by omega
  obtain ⟨i0, hi, hz0, hz1, hz2⟩ := info_parts info24
  by_cases hl : 100 < len
  · go_enter Try.func5, Try.ntmps5
    go_wp2_with fail
    refine (lives_any _).mono ?_
    rintro e w' ⟨rfl, hC⟩
    go_wp2_with fail
    go_ret
    exact ⟨rfl, hC⟩
  · have hl' : len ≤ 100 := by omega
    clear hl
    go_enter Try.func5, Try.ntmps5
    go_wp2_with fail
    go_loopw [6, 7] (fun v i wr => ∃ k : Nat, k ≤ n ∧ i = .int .i64 ((k : Int) + 1) ∧ ∃ B v', v = v' ∧ wr.ownsRow w.heap.size 24 1 v' k ((List.range k).map (gp B)) ∧ Groups w wr n k B ∧ Chg (fun _ => False) w wr)
      (fun _ i _ => n + 1 - (intOf i).toNat)
    case atStart => exact ⟨0, by omega, rfl, fun _ => 0, _, rfl, World.ownsRow_nil _ _ _ _, ⟨fun j h => by omega, fun i j h => by omega, fun j h => by omega⟩, Chg.refl _ _⟩
    case round =>
      obtain ⟨k, hk, rfl, B, v, hv, hown, hG, hC⟩ := hrel
      replace hv := hv.symm
      subst hv
      by_cases hlt : k < n
      · go_wp2_with fail
        refine (new_ok n k wr h1 h8 hlt).mono ?_
        rintro e w1 ⟨rfl, g1, c1⟩
        have hown1 := hown.kept (w' := w1) (row := none) ⟨c1.os, c1.tape, c1.output, c1.size, fun k hk _ => c1.block k hk (fun h => h)⟩ (by cases v.ownBlock <;> simp)
        have lw := hC.size
        have lw1 := lt_of_block g1.blk
        have CC : Chg (fun _ => False) w w1 := hC.trans c1
        have G1 : Groups w w1 n (k + 1) (upd B k wr.heap.size) := groups_step hG g1 c1 lw
        clear hG hC c1 hown
        go_wp2_with (at_builtin; refine wpList_append_own _ rfl _ _ 40 rfl w.heap.size 24 i0 (.pointer none) 1 8 Try.underlying40 hi hz0 hz1 hz2 rfl (by decide) _ _ _ rfl (hown1.alloc _) ⟨w1.heap.size, 0, none⟩ 1 1 [.pointer (some ⟨wr.heap.size, 0, none⟩)] rfl rfl (cell_one_new _ _ _) (by simp [Value.oneCell']) (by unfold maxLen; omega) (by omega) (by simp; omega) ?_; intro v' w2 hown' hgrow _)
        have C2 : Chg (fun _ => False) w w2 := same_grow (B := w.heap.size) (CC.alloc (.cells #[.pointer (some ⟨wr.heap.size, 0, none⟩)] 24)) hgrow (fun q hq => (hown1.lt q hq).1) (Nat.le_refl _)
        have G2 : Groups w w2 n (k + 1) (upd B k wr.heap.size) := groups_own G1 hown1 hgrow
        have O2 : w2.ownsRow w.heap.size 24 1 v' (k + 1) ((List.range (k + 1)).map (gp (upd B k wr.heap.size))) := by
          rw [gp_step]; exact hown'
        clear hown' hgrow hown1 G1 CC g1
        have HO := Lib.hid O2
        clear O2
        go_wp2_with fail
        go_roundw
        case rel => exact ⟨k + 1, by omega, by go_num, _, _, rfl, HO.out, G2, C2⟩
        case measure => simp [intOf]; omega
      · obtain rfl : n = k := by omega
        obtain ⟨L, cp, rfl, hF⟩ := fam_start hG hown h1 hC
        clear hown hG hC
        go_wp2_with fail
        obtain ⟨wo, rfl⟩ : ∃ wo : World, wo = wr := ⟨_, rfl⟩
        go_loopw [10, 11] (fun s i wr => ∃ m : Nat, m ≤ len ∧ i = .int .i64 m ∧ ∃ sil, s = .int .u8 (S8 sil) ∧ Fam w wr n B L sil (fun _ => loud n sil) (fun _ _ => 0))
          (fun _ i _ => len - (intOf i).toNat)
        case atStart => exact ⟨0, by omega, rfl, fun _ => false, rfl, hF⟩
        case round =>
          obtain ⟨m, hm, rfl, sil, rfl, hF⟩ := hrel
          by_cases hlt : m < len
          · obtain ⟨ad, rfl, hsp, hab, hac, hx0, hx1⟩ := hx m hlt
            obtain ⟨ab, ao, asp⟩ := ad
            simp only at hsp hab hac
            subst hsp
            have hac' := hF.chg.cell hac (fun h => h)
            obtain ⟨g, hg⟩ := S8_all (xs m) hx0 hx1
            rw [hg] at hac'
            have hor := or_S8 sil g
            have hsub : ∀ j, j < n → (sil j || g j) = false → sil j = false := fun j _ h => by cases hs : sil j <;> simp_all
            generalize hS : (fun j => sil j || g j) = S' at *
            have hsub' : ∀ j, j < n → S' j = false → sil j = false := fun j hj h => hsub j hj (by rw [← hS] at h; exact h)
            clear hsub hS hg
            have hlo := hF.chg.size
            have hL1 := hF.neL
            have FA : Fam w (wr.alloc (.cells (acells (fun _ => 0)) 41)) n B L S' (fun _ => loud n sil) (fun _ _ => 0) :=
              (hF.far (S := fun _ => False) (Chg.alloc (Chg.refl _ _) _) (fun h => h) (fun _ _ h => h) (fun _ _ h => h)).ext hsub' (fun _ _ _ => rfl) (fun _ _ _ => rfl)
            have XA : (wr.alloc (.cells (acells (fun _ => 0)) 41)).heap[wr.heap.size]? = some (.cells (acells (fun _ => 0)) 41 (0, 0)) := heap_alloc_new _ _
            unfold acells at FA XA
            have FA' := Lib.hid FA
            have XA' := Lib.hid XA
            clear FA XA hF
            go_wp2_with fail
            generalize hX : wr.heap.size = X at *
            have hXw : w.heap.size ≤ X := by omega
            clear hX
            obtain ⟨wo2, hwo2⟩ : ∃ wo2 : World, wo2 = wr := ⟨_, rfl⟩
            go_loopw [13] (fun i wr => ∃ q : Nat, q ≤ n ∧ i = .int .i64 q ∧ ∃ snt : Nat → Int, wr.heap[X]? = some (.cells (acells snt) 41 (0, 0)) ∧ (∀ j, j < q → S' j = false → snt j = S8 (loud n sil)) ∧ Fam w wr n B L S' (fun _ => loud n sil) (fun _ _ => 0))
              (fun i _ => n - (intOf i).toNat)
            case atStart => exact ⟨0, by omega, rfl, fun _ => 0, XA'.out, fun j h => by omega, FA'.out⟩
            case round =>
              obtain ⟨q, hq, rfl, snt, hXb, hsnt, hF⟩ := hrel
              by_cases hqn : q < n
              · have hcq : wr.cell? ⟨L, q, none⟩ = some (.pointer (some ⟨B q, 0, none⟩)) := hF.cell q hqn
                have hcx := acell hXb q (by omega)
                have hfx : wr.frozen? ⟨X, q, none⟩ = false := blk_free hXb q
                obtain ⟨f, r, hgr, hfr⟩ := hF.gr q hqn
                have hset := aset hXb q (by omega) (S8 f)
                have hFs : Fam w (wr.setCell ⟨X, q, none⟩ (.int .u8 (S8 f))) n B L S' (fun _ => loud n sil) (fun _ _ => 0) := hF.far (S := fun k => k = X) (Chg.setCell (Chg.refl _ _) _ _ (.inl rfl))
                  (fun e => by obtain ⟨cur, h1, _⟩ := hF.row; rw [e, hXb] at h1; simp at h1)
                  (fun j hj e => by obtain ⟨f, r, hg, _⟩ := hF.gr j hj; have := hg.blk; rw [e, hXb] at this; simp at this) (fun k hk e => by omega)
                have hs2 : ∀ j, j < q + 1 → S' j = false → upd snt q (S8 f) j = S8 (loud n sil) := fun j hj hs => by
                  unfold upd
                  by_cases e : j = q
                  · subst e; rw [if_pos rfl, (hfr hs).1]
                  · rw [if_neg e]; exact hsnt j (by omega) hs
                have HS := Lib.hid hset
                have HF := Lib.hid hFs
                have H2 := Lib.hid hs2
                clear hset hFs hs2 hfr hsnt
                go_wp2_with fail
                refine (members_any _ n q f r _ hgr).mono ?_
                rintro e w' ⟨rfl, rfl⟩
                go_wp2_with fail
                go_roundw
                case rel => exact ⟨q + 1, by omega, by go_num, _, HS.out, H2.out, HF.out⟩
                case measure => simp [intOf]; omega
              · obtain rfl : n = q := by omega
                have FB := hF.ext (F' := fun _ => loud n sil) (R' := fun j => if j < 0 then toldBy j S' n else fun _ => 0) (fun _ _ h => h) (fun _ _ _ => rfl) (fun j _ _ => by rw [if_neg (by omega)])
                have HB := Lib.hid FB
                have HX := Lib.hid hXb
                have HT := Lib.hid hsnt
                clear FB hXb hsnt hF FA' XA' hwo2 hac hac' hor
                go_wp2_with fail
                obtain ⟨wo3, hwo3⟩ : ∃ wo3 : World, wo3 = wr := ⟨_, rfl⟩
                go_loopw [14, 15] (fun i i2 wr => ∃ q : Nat, q ≤ n ∧ i = .int .i64 q ∧ wr.heap[X]? = some (.cells (acells snt) 41 (0, 0)) ∧ Fam w wr n B L S' (fun _ => loud n sil) (fun j => if j < q then toldBy j S' n else fun _ => 0))
                  (fun i _ _ => n - (intOf i).toNat)
                case atStart => exact ⟨0, by omega, rfl, HX.out, HB.out⟩
                case round =>
                  obtain ⟨q, hq, rfl, hXb, hF⟩ := hrel
                  by_cases hqn : q < n
                  · have hz := has0_S8' S' q (by omega)
                    cases hSq : S' q
                    · rw [hSq] at hz
                      have hz' : (bits BinOp.and IntKind.u8 (S8 S' / 2 ^ q) 1 == 0) = true := hz
                      have FI := hF.ext (sil' := S') (F' := fun _ => loud n sil) (R' := fun j => if j < q then toldBy j S' n else if j = q then toldBy q S' 0 else fun _ => 0) (fun _ _ h => h) (fun _ _ _ => rfl)
                        (fun j _ _ => by
                          by_cases e : j < q
                          · rw [if_pos e, if_pos e]
                          · rw [if_neg e, if_neg e]
                            by_cases e2 : j = q
                            · rw [if_pos e2, toldBy_zero]
                            · rw [if_neg e2])
                      have HI := Lib.hid FI
                      have HX2 := Lib.hid hXb
                      have HSQ := Lib.hid hSq
                      clear hz FI hXb hF hSq hwo3
                      go_wp2_with fail
                      obtain ⟨wo4, hwo4⟩ : ∃ wo4 : World, wo4 = wr := ⟨_, rfl⟩
                      go_loopw [15] (fun i wr => ∃ p : Nat, p ≤ n ∧ i = .int .i64 p ∧ wr.heap[X]? = some (.cells (acells snt) 41 (0, 0)) ∧ Fam w wr n B L S' (fun _ => loud n sil) (fun j => if j < q then toldBy j S' n else if j = q then toldBy q S' p else fun _ => 0))
                        (fun i _ => n - (intOf i).toNat)
                      case atStart => exact ⟨0, by omega, rfl, HX2.out, HI.out⟩
                      case round =>
                        obtain ⟨p, hp, rfl, hXb, hF⟩ := hrel
                        clear hwo4
                        by_cases hpn : p < n
                        · by_cases hpq : p = q
                          · have e1 : ((p : Int) != (q : Int)) = false := by simp; omega
                            have FN := hF.ext (sil' := S') (F' := fun _ => loud n sil) (R' := fun j => if j < q then toldBy j S' n else if j = q then toldBy q S' (p + 1) else fun _ => 0) (fun _ _ h => h) (fun _ _ _ => rfl)
                              (fun j _ _ => by rw [hpq, toldBy_self])
                            have HN := Lib.hid FN
                            have HX3 := Lib.hid hXb
                            clear hpq FN hXb hF
                            go_wp2_with fail
                            go_quiet (fail)
                            go_wp2_with fail
                            go_roundw
                            case rel => exact ⟨p + 1, by omega, by go_num, HX3.out, HN.out.drewN _⟩
                            case measure => simp [intOf]; omega
                          · have e1 : ((p : Int) != (q : Int)) = true := by simp; omega
                            have hcq : wr.cell? ⟨L, q, none⟩ = some (.pointer (some ⟨B q, 0, none⟩)) := hF.cell q hqn
                            have hcx := acell hXb p (by omega)
                            obtain ⟨f, r, hgr, hfr⟩ := hF.gr q hqn
                            obtain ⟨rfl, hr0⟩ := hfr HSQ.out
                            rw [if_neg (by omega), if_pos rfl] at hr0
                            subst hr0
                            have hb2 := has0_S8' S' p (by omega)
                            have hnz : S8 (loud n sil) ≠ 0 := by
                              intro h0
                              have := (S8_zero _).1 h0 q (by omega)
                              unfold loud at this
                              rw [hsub' q hqn HSQ.out] at this
                              simp at this
                              omega
                            have hC0 : heardC n q (loud n sil) (toldBy q S' p) ((p : Int) + 1) = 0 := by
                              unfold heardC
                              rw [if_neg hnz, if_neg (by omega), show ((p : Int) + 1 - 1).toNat = p from by omega, if_neg]
                              unfold toldBy; rw [if_neg (by omega)]; simp
                            have hR1 : heardR n q (loud n sil) (toldBy q S' p) ((p : Int) + 1) (!S' p) (snt p) = toldBy q S' (p + 1) := by
                              unfold heardR
                              rw [if_pos hC0, show ((p : Int) + 1 - 1).toNat = p from by omega, ← toldBy_step q S' p hpq]
                              congr 1
                              unfold heardV
                              cases hSp : S' p
                              · have hlp : loud n sil p = true := by unfold loud; rw [hsub' p hpn hSp]; simpa using hpn
                                rw [if_neg (by rw [hlp]; simp), if_pos (HT.out p hpn hSp)]; rfl
                              · rw [if_pos (.inl rfl)]; rfl
                            have hXne : ¬ (X = B q) := fun e => by have := hgr.blk; rw [← e, hXb] at this; simp at this
                            have hp8 : (p : Int) < 8 := by omega
                            have hwr : IntKind.i64.wrap ((p : Int) + 1) = (p : Int) + 1 := by rw [IntKind.wrap_i64]; omega
                            have HC0 := Lib.hid hC0
                            have HR1 := Lib.hid hR1
                            have HXb := Lib.hid hXb
                            have hLq := hF.neL q hqn
                            clear hC0 hR1 hnz hXb
                            go_wp2_with fail
                            go_region_held3 (fun W => W.cell? ⟨L, q, none⟩ = some (.pointer (some ⟨B q, 0, none⟩)) ∧ W.cell? ⟨X, p, none⟩ = some (.int .u8 (snt p)))
                              (first | exact ⟨hcq, hcx⟩ | exact ⟨k3.cell hcq hLq, k3.cell hcx hXne⟩)
                              (first
                                | (go_at_call 13; refine (heard_v (hgr.chg (Chg.drew (Chg.refl (fun _ => False) _)) (fun h => h)) ((p : Int) + 1) (!S' p) (snt p) (by omega) 0 HC0.out).mono ?_; rintro e w3 ⟨rfl, g3, k3⟩))
                            rw [HR1.out] at g3
                            have FN : Fam w w3 n B L S' (fun _ => loud n sil) (fun j => if j < q then toldBy j S' n else if j = q then toldBy q S' (p + 1) else fun _ => 0) :=
                              (hF.drewN 1).turn q hqn g3 k3 rfl (by rw [if_neg (by omega), if_pos rfl]) (fun _ _ _ => rfl) (fun j _ hj => by rw [if_neg hj, if_neg hj])
                            have HN := Lib.hid FN
                            have HX3 : Hid (w3.heap[X]? = some (.cells (acells snt) 41 (0, 0))) := k3.heap HXb.out hXne
                            clear FN g3 k3
                            go_wp2_with fail
                            go_roundw
                            case rel => exact ⟨p + 1, by omega, by go_num, HX3.out, HN.out⟩
                            case measure => simp [intOf]; omega
                        · obtain rfl : n = p := by omega
                          have FN := hF.ext (sil' := S') (F' := fun _ => loud n sil) (R' := fun j => if j < q + 1 then toldBy j S' n else fun _ => 0) (fun _ _ h => h) (fun _ _ _ => rfl)
                            (fun j _ hs => by
                              by_cases e : j < q
                              · rw [if_pos e, if_pos (by omega)]
                              · rw [if_neg e]
                                by_cases e2 : j = q
                                · rw [if_pos e2, if_pos (by omega), e2]
                                · rw [if_neg e2, if_neg (by omega)])
                          have HN := Lib.hid FN
                          have HX3 := Lib.hid hXb
                          clear FN hXb hF
                          go_wp2_with fail
                          go_roundw
                          case rel => exact ⟨q + 1, by omega, by go_num, HX3.out, HN.out⟩
                          case measure => simp [intOf]; omega
                    · rw [hSq] at hz
                      have hz' : (bits BinOp.and IntKind.u8 (S8 S' / 2 ^ q) 1 == 0) = false := hz
                      have FN := hF.ext (sil' := S') (F' := fun _ => loud n sil) (R' := fun j => if j < q + 1 then toldBy j S' n else fun _ => 0) (fun _ _ h => h) (fun _ _ _ => rfl)
                        (fun j _ hs => by
                          by_cases e : j < q
                          · rw [if_pos e, if_pos (by omega)]
                          · rw [if_neg e, if_neg (fun h => by have : j = q := by omega
                                                              rw [this, hSq] at hs; simp at hs)])
                      have HN := Lib.hid FN
                      have HX3 := Lib.hid hXb
                      clear hz FN hXb hF hSq hwo3
                      go_wp2_with fail
                      refine wp_loop_rounds 1 ?_
                      rw [rounds_succ]
                      go_wp2_with fail
                      go_roundw
                      case rel => exact ⟨q + 1, by omega, by go_num, HX3.out, HN.out⟩
                      case measure => simp [intOf]; omega
                  · obtain rfl : n = q := by omega
                    have FC := hF.ext (sil' := S') (F' := fun j => if j < 0 then loud n S' else loud n sil) (R' := fun j => if j < 0 then fun _ => 0 else toldBy j S' n) (fun _ _ h => h) (fun _ _ _ => by rw [if_neg (by omega)])
                      (fun j hj _ => by rw [if_pos hj, if_neg (by omega)])
                    have HC := Lib.hid FC
                    clear FC hF hXb hwo3
                    go_wp2_with fail
                    obtain ⟨wo5, hwo5⟩ : ∃ wo5 : World, wo5 = wr := ⟨_, rfl⟩
                    go_loopw [16, 17, 18, 19] (fun i _ _ _ wr => ∃ q : Nat, q ≤ n ∧ i = .int .i64 q ∧ Fam w wr n B L S' (fun j => if j < q then loud n S' else loud n sil) (fun j => if j < q then fun _ => 0 else toldBy j S' n))
                      (fun i _ _ _ _ => n - (intOf i).toNat)
                    case atStart => exact ⟨0, by omega, rfl, HC.out⟩
                    case round =>
                      obtain ⟨q, hq, rfl, hF⟩ := hrel
                      clear hwo5
                      by_cases hqn : q < n
                      · have hh := has_S8 S' q (by omega)
                        cases hSq : S' q
                        · rw [hSq] at hh
                          have hcq : wr.cell? ⟨L, q, none⟩ = some (.pointer (some ⟨B q, 0, none⟩)) := hF.cell q hqn
                          obtain ⟨f, r, hgr, hfr⟩ := hF.gr q hqn
                          obtain ⟨rfl, hr0⟩ := hfr hSq
                          rw [if_neg (by omega)] at hr0
                          subst hr0
                          rw [if_neg (by omega)] at hgr
                          have hnz : S8 (loud n sil) ≠ 0 := by
                            intro h0
                            have := (S8_zero _).1 h0 q (by omega)
                            unfold loud at this
                            rw [hsub' q hqn hSq] at this
                            simp at this
                            omega
                          have he := endF_told n q S' hqn hSq
                          have hnz2 : (S8 (loud n S') != 0) = true := by
                            have : S8 (loud n S') ≠ 0 := by
                              intro h0
                              have := (S8_zero _).1 h0 q (by omega)
                              unfold loud at this
                              rw [hSq] at this
                              simp at this
                              omega
                            simpa using this
                          have hlo2 := loud_test n S' h1 h8
                          have HNZ := Lib.hid hnz
                          have HE := Lib.hid he
                          have HSq := Lib.hid hSq
                          clear hnz he hSq
                          go_wp2_with fail
                          refine (end_ok _ n q _ _ _ hgr HNZ.out).mono ?_
                          rintro e w3 ⟨rfl, g3, k3⟩
                          rw [HE.out] at g3 ⊢
                          have FN : Fam w w3 n B L S' (fun j => if j < q + 1 then loud n S' else loud n sil) (fun j => if j < q + 1 then fun _ => 0 else toldBy j S' n) :=
                            hF.turn q hqn g3 k3 (by rw [if_pos (by omega)]) (by rw [if_pos (by omega)])
                              (fun j _ hj => by by_cases e : j < q
                                                · rw [if_pos e, if_pos (by omega)]
                                                · rw [if_neg e, if_neg (by omega)])
                              (fun j _ hj => by by_cases e : j < q
                                                · rw [if_pos e, if_pos (by omega)]
                                                · rw [if_neg e, if_neg (by omega)])
                          have HN := Lib.hid FN
                          clear FN g3 k3 hF
                          go_wp2_with fail
                          go_roundw
                          case rel => exact ⟨q + 1, by omega, by go_num, HN.out⟩
                          case measure => simp [intOf]; omega
                        · rw [hSq] at hh
                          have FN : Fam w wr n B L S' (fun j => if j < q + 1 then loud n S' else loud n sil) (fun j => if j < q + 1 then fun _ => 0 else toldBy j S' n) :=
                            hF.ext (fun _ _ h => h)
                              (fun j _ hs => by by_cases e : j < q
                                                · rw [if_pos e, if_pos (by omega)]
                                                · rw [if_neg e, if_neg (fun h => by have : j = q := by omega
                                                                                    rw [this, hSq] at hs; simp at hs)])
                              (fun j _ hs => by by_cases e : j < q
                                                · rw [if_pos e, if_pos (by omega)]
                                                · rw [if_neg e, if_neg (fun h => by have : j = q := by omega
                                                                                    rw [this, hSq] at hs; simp at hs)])
                          have HN := Lib.hid FN
                          clear FN hF hSq
                          go_wp2_with fail
                          go_roundw
                          case rel => exact ⟨q + 1, by omega, by go_num, HN.out⟩
                          case measure => simp [intOf]; omega
                      · obtain rfl : n = q := by omega
                        have FN := hF.ext (sil' := S') (F' := fun _ => loud n S') (R' := fun _ _ => 0) (fun _ _ h => h) (fun j hj _ => by rw [if_pos hj]) (fun j hj _ => by rw [if_pos hj])
                        have HN := Lib.hid FN
                        clear FN hF
                        go_wp2_with fail
                        go_roundw
                        case rel => exact ⟨m + 1, by omega, by go_num, S', rfl, HN.out⟩
                        case measure => simp [intOf]; omega
          · go_wp2_with fail
            refine (lives_any _).mono ?_
            rintro e w' ⟨rfl, hL⟩
            go_wp2_with fail
            go_ret
            exact ⟨rfl, hF.chg.trans (hL.mono (fun _ _ h => h))⟩
end Go.Proofs.Ytpkeclkfgfkddaa
