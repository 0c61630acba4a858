/- A twin that nobody has touched is told as left. -/
import Derived.Test.YtjdficgejjkaoaaSize
import Derived.BigQuiet
import Derived.Deep.QuietTactic
import Derived.Deep.RegionHeld3
namespace Go.Proofs.Ytjdficgejjkaoaa
open Go.RowKit
set_option linter.unusedVariables false
def RetT (w : World) (e : Ending) (w' : World) : Prop := e = .returned (.bool true) ∧ Ext w w'
theorem spare_same : (spareS.toList == [115, 112, 97, 114, 101]) = true := by decide +kernel
set_option maxHeartbeats 1000000 in
theorem leftTexts_any (l : List ByteArray) (vt vl : Value) (w : World) {lo lo' : Nat} (ht : RdStrV w lo true l vt) (hl : RdStrV w lo' false l vl) : Calls Try.prog 45 #[vt, vl] w (RetT w) := by
  obtain ⟨at_, ct, rfl, hft, h1, h2, hrt, hmt⟩ := ht
  obtain ⟨hct, bt, ot, rfl, _, hbt, hmk⟩ := hmt rfl
  obtain ⟨al, cl, rfl, hfl, h3, h4, hrl, _⟩ := hl
  unfold fitsR at hft
  have hn : l.length ≤ 9000000000000000000 := by omega
  have hct' : ct ≤ 9223372036854775807 := by unfold maxLen at h2; exact h2
  clear hft hfl hmt h2 h4
  go_enter Try.func45, Try.ntmps45
  go_wp2_with fail
  go_loopw [5] (fun i wr => ∃ k : Nat, k ≤ l.length ∧ i = .int .i64 k ∧ ∃ m, wr = w.drewN m) (fun i _ => l.length - (intOf i).toNat)
  case atStart => exact ⟨0, Nat.zero_le _, rfl, 0, rfl⟩
  case round =>
    obtain ⟨k, hk, rfl, m, rfl⟩ := hrel
    by_cases hlt : k < l.length
    · have hx := List.getElem?_eq_getElem hlt
      obtain ⟨_, b1, o1, e1, _, _, c1⟩ := hrt k _ hx
      simp only [Option.some.injEq, Addr.mk.injEq, and_true] at e1
      obtain ⟨rfl, rfl⟩ := e1
      obtain ⟨_, b2, o2, rfl, _, _, c2⟩ := hrl k _ hx
      have q1 : (k : Int) < (l.length : Int) := by omega
      generalize l[k] = x at *
      clear hx
      go_wp2_with fail
      go_quiet (fail)
      go_wp2_with fail
      go_roundw
      case rel => exact ⟨k + 1, by omega, by go_num, _, rfl⟩
      case measure => simp [intOf]; omega
    · obtain rfl : k = l.length := by omega
      go_wp2_with fail
      go_ret
      exact ⟨congrArg (fun b => Ending.returned (Value.bool b)) spare_same, (Chg.refl _ _).drewN _⟩
set_option maxHeartbeats 1000000 in
theorem leftIns_any (l : List InD) (vt vl : Value) (w : World) {lo lo' : Nat} (ht : RdInV w lo true l vt) (hl : RdInV w lo' false l vl) : Calls Try.prog 43 #[vt, vl] w (RetT w) := by
  obtain ⟨at_, ct, rfl, hft, h1, h2, hrt, hmt⟩ := ht
  obtain ⟨hct, bt, ot, rfl, _, hbt, m1, m2, hmk, hmk1, hmk2⟩ := hmt rfl
  obtain ⟨al, cl, rfl, hfl, h3, h4, hrl, _⟩ := hl
  unfold fitsR at hft
  have hn : l.length ≤ 9000000000000000000 := by omega
  have hct' : ct ≤ 9223372036854775807 := by unfold maxLen at h2; exact h2
  clear hft hfl hmt h2 h4
  go_enter Try.func43, Try.ntmps43
  go_wp2_with fail
  go_loopw [5] (fun i wr => ∃ k : Nat, k ≤ l.length ∧ i = .int .i64 k ∧ ∃ m, wr = w.drewN m) (fun i _ => l.length - (intOf i).toNat)
  case atStart => exact ⟨0, Nat.zero_le _, rfl, 0, rfl⟩
  case round =>
    obtain ⟨k, hk, rfl, m, rfl⟩ := hrel
    by_cases hlt : k < l.length
    · have hx := List.getElem?_eq_getElem hlt
      obtain ⟨_, _, _, b1, o1, e1, _, _, c1, c11, c12⟩ := hrt k _ hx
      simp only [Option.some.injEq, Addr.mk.injEq, and_true] at e1
      obtain ⟨rfl, rfl⟩ := e1
      obtain ⟨_, _, _, b2, o2, rfl, _, _, c2, c21, c22⟩ := hrl k _ hx
      have q1 : (k : Int) < (l.length : Int) := by omega
      generalize l[k] = x at *
      clear hx
      go_wp2_with fail
      go_quiet (fail)
      go_wp2_with fail
      go_roundw
      case rel => exact ⟨k + 1, by omega, by go_num, _, rfl⟩
      case measure => simp [intOf]; omega
    · obtain rfl : k = l.length := by omega
      have hE : Ext w (w.drewN m) := (Chg.refl _ _).drewN _
      generalize w.drewN m = W at *
      have k0 := hE.cell hmk
      have k1 := hE.cell hmk1
      have k2 := hE.cell hmk2
      clear hmk hmk1 hmk2 hrt hrl hbt
      go_wp2_with fail
      go_ret
      exact ⟨congrArg (fun b => Ending.returned (Value.bool b)) spare_same, hE.alloc _⟩
/-- LeftExpr's contract at x. -/
def ELeft (x : Ex) : Prop := ∀ (lo lo' : Nat) (vt vl : Value) (w : World), RdExV w lo true x.args vt → RdExV w lo' false x.args vl →
  Calls Try.prog 88 #[.agg #[.int .u8 x.op, .int .i64 x.n, .string x.name, vt], .agg #[.int .u8 x.op, .int .i64 x.n, .string x.name, vl]] w (RetT w)
set_option maxHeartbeats 2000000 in
theorem leftExprs_of (l : List Ex) (ih : ∀ x, x ∈ l → ELeft x) (vt vl : Value) (w : World) {lo lo' : Nat} (ht : RdExV w lo true l vt) (hl : RdExV w lo' false l vl) : Calls Try.prog 101 #[vt, vl] w (RetT w) := by
  obtain ⟨at_, ct, rfl, hft, h1, h2, rt, hmt⟩ := ht
  have hq : RdExV w lo true l (.slice at_ l.length ct) := ⟨_, _, rfl, hft, h1, h2, rt, hmt⟩
  obtain ⟨al, cl, rfl, hrest⟩ := hl
  have hv : RdExV w lo' false l (.slice al l.length cl) := ⟨al, cl, rfl, hrest⟩
  obtain ⟨hct, bt, ot, rfl, _, hbt, m0, m1, m3, hmk0, hmk1, hmk, hmk3⟩ := hmt rfl
  obtain ⟨_, h3, _⟩ := hrest
  unfold fitsR at hft
  have hn : l.length ≤ 9000000000000000000 := by omega
  have hct' : ct ≤ 9223372036854775807 := by unfold maxLen at h2; exact h2
  clear hft hmt h2 rt
  go_enter Try.func101, Try.ntmps101
  go_wp2_with fail
  simp only [show decide (ct ≤ l.length) = false from decide_eq_false (by omega)]
  go_loopw [5] (fun i wr => ∃ k : Nat, k ≤ l.length ∧ i = .int .i64 k ∧ Ext w wr) (fun i _ => l.length - (intOf i).toNat)
  case atStart => exact ⟨0, Nat.zero_le _, rfl, Chg.refl _ _⟩
  case round =>
    obtain ⟨k, hk, rfl, hE⟩ := hrel
    by_cases hlt : k < l.length
    · have hx := List.getElem?_eq_getElem hlt
      have hi := ih _ (List.getElem_mem hlt)
      obtain ⟨_, _, v1, e1, _, hb1, c0, c1, c2, c3, _, _, _, hv1⟩ := (hq.ext hE).get hx
      simp only [Option.some.injEq, Addr.mk.injEq, and_true] at e1
      obtain ⟨rfl, rfl⟩ := e1
      obtain ⟨b2, o2, v2, rfl, _, hb2, d0, d1, d2, d3, _, _, _, hv2⟩ := (hv.ext hE).get hx
      have q1 : (k : Int) < (l.length : Int) := by omega
      generalize l[k] = x at *
      clear hx hq hv hmk hmk0 hmk1 hmk3
      go_wp2_with fail
      have s0 := (World.cell?_drew (w := wr) (a := ⟨bt, ot + k * 4, none⟩)).trans c0
      have s1 := (World.cell?_drew (w := wr) (a := ⟨bt, ot + k * 4 + 1, none⟩)).trans c1
      have s2 := (World.cell?_drew (w := wr) (a := ⟨bt, ot + k * 4 + 2, none⟩)).trans c2
      have s3 := (World.cell?_drew (w := wr) (a := ⟨bt, ot + k * 4 + 3, none⟩)).trans c3
      have t0 := (World.cell?_drew (w := wr) (a := ⟨b2, o2 + k * 4, none⟩)).trans d0
      have t1 := (World.cell?_drew (w := wr) (a := ⟨b2, o2 + k * 4 + 1, none⟩)).trans d1
      have t2 := (World.cell?_drew (w := wr) (a := ⟨b2, o2 + k * 4 + 2, none⟩)).trans d2
      have t3 := (World.cell?_drew (w := wr) (a := ⟨b2, o2 + k * 4 + 3, none⟩)).trans d3
      go_region_held3 (fun W => W.cell? ⟨bt, ot + k * 4, none⟩ = some (.int .u8 x.op) ∧ W.cell? ⟨bt, ot + k * 4 + 1, none⟩ = some (.int .i64 x.n) ∧ W.cell? ⟨bt, ot + k * 4 + 2, none⟩ = some (.string x.name) ∧ W.cell? ⟨bt, ot + k * 4 + 3, none⟩ = some v1 ∧
          W.cell? ⟨b2, o2 + k * 4, none⟩ = some (.int .u8 x.op) ∧ W.cell? ⟨b2, o2 + k * 4 + 1, none⟩ = some (.int .i64 x.n) ∧ W.cell? ⟨b2, o2 + k * 4 + 2, none⟩ = some (.string x.name) ∧ W.cell? ⟨b2, o2 + k * 4 + 3, none⟩ = some v2)
        (first | (with_reducible exact ⟨s0, s1, s2, s3, t0, t1, t2, t3⟩) | (with_reducible exact ⟨Ext.cell he3 s0, Ext.cell he3 s1, Ext.cell he3 s2, Ext.cell he3 s3, Ext.cell he3 t0, Ext.cell he3 t1, Ext.cell he3 t2, Ext.cell he3 t3⟩))
        (first
          | (go_at_call 88; refine (hi _ _ v1 v2 _ (hv1.ext ((Chg.refl _ _).drew)) (hv2.ext ((Chg.refl _ _).drew))).mono ?_; rintro e w3 ⟨rfl, he3⟩))
      have hE3 : Ext w w3 := (hE.trans ((Chg.refl _ _).drew)).trans he3
      clear s0 s1 s2 s3 t0 t1 t2 t3 he3 c0 c1 c2 c3 d0 d1 d2 d3 hE
      go_wp2_with fail
      go_roundw
      case rel => exact ⟨k + 1, by omega, by go_num, hE3⟩
      case measure => simp [intOf]; omega
    · obtain rfl : k = l.length := by omega
      have k0 := hE.cell hmk0
      have k1 := hE.cell hmk1
      have k2 := hE.cell hmk
      have k3 := hE.cell hmk3
      clear hmk0 hmk1 hmk hmk3 hv hq hbt
      go_wp2_with fail
      go_ret
      exact ⟨congrArg (fun b => Ending.returned (Value.bool b)) spare_same, hE.alloc _⟩
theorem leftExpr_any : ∀ x, ELeft x := by
  refine Ex.ind fun op n nm args ih => ?_
  intro lo lo' vt vl w ht hl
  simp only [Ex.op, Ex.n, Ex.name, Ex.args] at *
  have ih' := leftExprs_of args ih
  obtain ⟨at_, ct, rfl, rt⟩ := ht
  obtain ⟨al, cl, rfl, rl⟩ := hl
  have ht : RdExV w lo true args (.slice at_ args.length ct) := ⟨_, _, rfl, rt⟩
  have hl : RdExV w lo' false args (.slice al args.length cl) := ⟨_, _, rfl, rl⟩
  clear rt rl ih
  go_enter Try.func88, Try.ntmps88
  go_wp2_with fail
  refine (ih' _ _ _ (ht.ext (((Chg.refl _ _).alloc _).alloc _)) (hl.ext (((Chg.refl _ _).alloc _).alloc _))).mono ?_
  rintro e w1 ⟨rfl, he⟩
  go_wp2_with fail
  go_ret
  exact ⟨rfl, (((Chg.refl _ _).alloc _).alloc _).trans he⟩
set_option maxHeartbeats 2000000 in
theorem leftFlow_any (x : FlD) (vt vl : Value) (w : World) {lo lo' : Nat} (ht : RdExV w lo true x.body.args vt) (hl : RdExV w lo' false x.body.args vl) :
    Calls Try.prog 69 #[.agg #[.string x.name, .int .u8 x.ty, .int .i64 x.st, .int .i64 x.df, .int .u8 x.body.op, .int .i64 x.body.n, .string x.body.name, vt], .agg #[.string x.name, .int .u8 x.ty, .int .i64 x.st, .int .i64 x.df, .int .u8 x.body.op, .int .i64 x.body.n, .string x.body.name, vl]] w (RetT w) := by
  have ih := leftExpr_any x.body
  obtain ⟨at_, ct, rfl, rt⟩ := ht
  obtain ⟨al, cl, rfl, rl⟩ := hl
  have ht : RdExV w lo true x.body.args (.slice at_ x.body.args.length ct) := ⟨_, _, rfl, rt⟩
  have hl : RdExV w lo' false x.body.args (.slice al x.body.args.length cl) := ⟨_, _, rfl, rl⟩
  clear rt rl
  go_enter Try.func69, Try.ntmps69
  go_wp2_with fail
  refine (ih _ _ _ _ _ (ht.ext (((Chg.refl _ _).alloc _).alloc _)) (hl.ext (((Chg.refl _ _).alloc _).alloc _))).mono ?_
  rintro e w1 ⟨rfl, he⟩
  go_wp2_with fail
  go_ret
  exact ⟨rfl, (((Chg.refl _ _).alloc _).alloc _).trans he⟩
theorem flMark_at (j : Nat) (c : Value) (h : flMark[j]? = some c) {d : Value} (e : flMark[j]? = some d) : c = d := by rw [h] at e; simpa using e
set_option maxHeartbeats 4000000 in
theorem leftFlows_any (l : List FlD) (vt vl : Value) (w : World) {lo lo' : Nat} (ht : RdFlV w lo true l vt) (hl : RdFlV w lo' false l vl) : Calls Try.prog 44 #[vt, vl] w (RetT w) := by
  obtain ⟨at_, ct, rfl, hft, h1, h2, rt, hmt⟩ := ht
  have hq : RdFlV w lo true l (.slice at_ l.length ct) := ⟨_, _, rfl, hft, h1, h2, rt, hmt⟩
  obtain ⟨al, cl, rfl, hrest⟩ := hl
  have hv : RdFlV w lo' false l (.slice al l.length cl) := ⟨al, cl, rfl, hrest⟩
  obtain ⟨hct, bt, ot, rfl, _, hbt, hmk0, hmks⟩ := hmt rfl
  obtain ⟨_, h3, _⟩ := hrest
  unfold fitsR at hft
  have hn : l.length ≤ 9000000000000000000 := by omega
  have hct' : ct ≤ 9223372036854775807 := by unfold maxLen at h2; exact h2
  have hm : ∀ j, 1 ≤ j → j < 8 → ∀ d, flMark[j]? = some d → w.cell? ⟨bt, ot + l.length * 8 + j, none⟩ = some d := fun j h1 h2 d hd => by
    obtain ⟨⟨c, hc⟩, hcell⟩ := hmks j h1 h2
    exact hcell.trans (congrArg some (flMark_at j c hc hd))
  have hmk1 := hm 1 (by omega) (by omega) _ rfl
  have hmk2 := hm 2 (by omega) (by omega) _ rfl
  have hmk3 := hm 3 (by omega) (by omega) _ rfl
  have hmk4 := hm 4 (by omega) (by omega) _ rfl
  have hmk5 := hm 5 (by omega) (by omega) _ rfl
  have hmk6 := hm 6 (by omega) (by omega) _ rfl
  have hmk7 := hm 7 (by omega) (by omega) _ rfl
  clear hft hmt h2 rt hm hmks
  go_enter Try.func44, Try.ntmps44
  go_wp2_with fail
  simp only [show decide (ct ≤ l.length) = false from decide_eq_false (by omega)]
  go_loopw [5] (fun i wr => ∃ k : Nat, k ≤ l.length ∧ i = .int .i64 k ∧ Ext w wr) (fun i _ => l.length - (intOf i).toNat)
  case atStart => exact ⟨0, Nat.zero_le _, rfl, Chg.refl _ _⟩
  case round =>
    obtain ⟨k, hk, rfl, hE⟩ := hrel
    by_cases hlt : k < l.length
    · have hx := List.getElem?_eq_getElem hlt
      obtain ⟨_, _, e, _, _, _, hr, _⟩ := hq.ext hE
      simp only [Value.slice.injEq, true_and] at e
      obtain ⟨rfl, rfl⟩ := e
      obtain ⟨_, _, _, _, _, _, e1, _, hb1, c0, c1, c2, c3, _, _, _, v1, hv1, c4, c5, c6, c7⟩ := hr k _ hx
      simp only [Option.some.injEq, Addr.mk.injEq, and_true] at e1
      obtain ⟨rfl, rfl⟩ := e1
      obtain ⟨_, _, e, _, _, _, hr2, _⟩ := hv.ext hE
      simp only [Value.slice.injEq, true_and] at e
      obtain ⟨rfl, rfl⟩ := e
      obtain ⟨_, _, _, _, b2, o2, rfl, _, hb2, d0, d1, d2, d3, _, _, _, v2, hv2, d4, d5, d6, d7⟩ := hr2 k _ hx
      have q1 : (k : Int) < (l.length : Int) := by omega
      generalize l[k] = x at *
      clear hx hq hv hr hr2 hmk0 hmk1 hmk2 hmk3 hmk4 hmk5 hmk6 hmk7
      go_wp2_with fail
      have s0 := (World.cell?_drew (w := wr) (a := ⟨bt, ot + k * 8, none⟩)).trans c0
      have s1 := (World.cell?_drew (w := wr) (a := ⟨bt, ot + k * 8 + 1, none⟩)).trans c1
      have s2 := (World.cell?_drew (w := wr) (a := ⟨bt, ot + k * 8 + 2, none⟩)).trans c2
      have s3 := (World.cell?_drew (w := wr) (a := ⟨bt, ot + k * 8 + 3, none⟩)).trans c3
      have s4 := (World.cell?_drew (w := wr) (a := ⟨bt, ot + k * 8 + 4, none⟩)).trans c4
      have s5 := (World.cell?_drew (w := wr) (a := ⟨bt, ot + k * 8 + 4 + 1, none⟩)).trans c5
      have s6 := (World.cell?_drew (w := wr) (a := ⟨bt, ot + k * 8 + 4 + 2, none⟩)).trans c6
      have s7 := (World.cell?_drew (w := wr) (a := ⟨bt, ot + k * 8 + 4 + 3, none⟩)).trans c7
      have t0 := (World.cell?_drew (w := wr) (a := ⟨b2, o2 + k * 8, none⟩)).trans d0
      have t1 := (World.cell?_drew (w := wr) (a := ⟨b2, o2 + k * 8 + 1, none⟩)).trans d1
      have t2 := (World.cell?_drew (w := wr) (a := ⟨b2, o2 + k * 8 + 2, none⟩)).trans d2
      have t3 := (World.cell?_drew (w := wr) (a := ⟨b2, o2 + k * 8 + 3, none⟩)).trans d3
      have t4 := (World.cell?_drew (w := wr) (a := ⟨b2, o2 + k * 8 + 4, none⟩)).trans d4
      have t5 := (World.cell?_drew (w := wr) (a := ⟨b2, o2 + k * 8 + 4 + 1, none⟩)).trans d5
      have t6 := (World.cell?_drew (w := wr) (a := ⟨b2, o2 + k * 8 + 4 + 2, none⟩)).trans d6
      have t7 := (World.cell?_drew (w := wr) (a := ⟨b2, o2 + k * 8 + 4 + 3, none⟩)).trans d7
      go_region_held3 (fun W => W.cell? ⟨bt, ot + k * 8, none⟩ = some (.string x.name) ∧ W.cell? ⟨bt, ot + k * 8 + 1, none⟩ = some (.int .u8 x.ty) ∧ W.cell? ⟨bt, ot + k * 8 + 2, none⟩ = some (.int .i64 x.st) ∧ W.cell? ⟨bt, ot + k * 8 + 3, none⟩ = some (.int .i64 x.df) ∧ W.cell? ⟨bt, ot + k * 8 + 4, none⟩ = some (.int .u8 x.body.op) ∧ W.cell? ⟨bt, ot + k * 8 + 4 + 1, none⟩ = some (.int .i64 x.body.n) ∧ W.cell? ⟨bt, ot + k * 8 + 4 + 2, none⟩ = some (.string x.body.name) ∧ W.cell? ⟨bt, ot + k * 8 + 4 + 3, none⟩ = some v1 ∧ W.cell? ⟨b2, o2 + k * 8, none⟩ = some (.string x.name) ∧ W.cell? ⟨b2, o2 + k * 8 + 1, none⟩ = some (.int .u8 x.ty) ∧ W.cell? ⟨b2, o2 + k * 8 + 2, none⟩ = some (.int .i64 x.st) ∧ W.cell? ⟨b2, o2 + k * 8 + 3, none⟩ = some (.int .i64 x.df) ∧ W.cell? ⟨b2, o2 + k * 8 + 4, none⟩ = some (.int .u8 x.body.op) ∧ W.cell? ⟨b2, o2 + k * 8 + 4 + 1, none⟩ = some (.int .i64 x.body.n) ∧ W.cell? ⟨b2, o2 + k * 8 + 4 + 2, none⟩ = some (.string x.body.name) ∧ W.cell? ⟨b2, o2 + k * 8 + 4 + 3, none⟩ = some v2)
        (first | (with_reducible exact ⟨s0, s1, s2, s3, s4, s5, s6, s7, t0, t1, t2, t3, t4, t5, t6, t7⟩) | (with_reducible exact ⟨Ext.cell he3 s0, Ext.cell he3 s1, Ext.cell he3 s2, Ext.cell he3 s3, Ext.cell he3 s4, Ext.cell he3 s5, Ext.cell he3 s6, Ext.cell he3 s7, Ext.cell he3 t0, Ext.cell he3 t1, Ext.cell he3 t2, Ext.cell he3 t3, Ext.cell he3 t4, Ext.cell he3 t5, Ext.cell he3 t6, Ext.cell he3 t7⟩))
        (first
          | (go_at_call 69; refine (leftFlow_any x v1 v2 _ (hv1.ext ((Chg.refl _ _).drew)) (hv2.ext ((Chg.refl _ _).drew))).mono ?_; rintro e w3 ⟨rfl, he3⟩))
      have hE3 : Ext w w3 := (hE.trans ((Chg.refl _ _).drew)).trans he3
      clear s0 s1 s2 s3 s4 s5 s6 s7 t0 t1 t2 t3 t4 t5 t6 t7 he3 c0 c1 c2 c3 c4 c5 c6 c7 d0 d1 d2 d3 d4 d5 d6 d7 hE
      go_wp2_with fail
      go_roundw
      case rel => exact ⟨k + 1, by omega, by go_num, hE3⟩
      case measure => simp [intOf]; omega
    · obtain rfl : k = l.length := by omega
      have k0 := hE.cell hmk0
      have k1 := hE.cell hmk1
      have k2 := hE.cell hmk2
      have k3 := hE.cell hmk3
      have k4 := hE.cell hmk4
      have k5 := hE.cell hmk5
      have k6 := hE.cell hmk6
      have k7 := hE.cell hmk7
      clear hmk0 hmk1 hmk2 hmk3 hmk4 hmk5 hmk6 hmk7 hv hq hbt
      go_wp2_with fail
      go_ret
      exact ⟨congrArg (fun b => Ending.returned (Value.bool b)) spare_same, hE.alloc _⟩
set_option maxHeartbeats 4000000 in
theorem leftProg_any (p : PrD) (ct cs : Array Value) (w : World) {lo lo' : Nat} (ht : RdPr w lo true p ct) (hl : RdPr w lo' false p cs) : Calls Try.prog 17 #[.agg ct, .agg cs] w (RetT w) := by
  obtain ⟨ui, uf, uo, rfl, _, gi, gf, go⟩ := ht
  obtain ⟨ti, di, rfl, ri⟩ := gi
  obtain ⟨tf, df, rfl, rf⟩ := gf
  obtain ⟨to_, do_, rfl, ro⟩ := go
  have gi : RdInV w lo true p.ins (.slice ti p.ins.length di) := ⟨_, _, rfl, ri⟩
  have gf : RdFlV w lo true p.flows (.slice tf p.flows.length df) := ⟨_, _, rfl, rf⟩
  have go : RdStrV w lo true p.outs (.slice to_ p.outs.length do_) := ⟨_, _, rfl, ro⟩
  clear ri rf ro
  obtain ⟨vi, vf, vo, rfl, _, hi, hf, ho⟩ := hl
  obtain ⟨ai, ci, rfl, ri⟩ := hi
  obtain ⟨af, cf, rfl, rf⟩ := hf
  obtain ⟨ao, co, rfl, ro⟩ := ho
  have hi : RdInV w lo' false p.ins (.slice ai p.ins.length ci) := ⟨_, _, rfl, ri⟩
  have hf : RdFlV w lo' false p.flows (.slice af p.flows.length cf) := ⟨_, _, rfl, rf⟩
  have ho : RdStrV w lo' false p.outs (.slice ao p.outs.length co) := ⟨_, _, rfl, ro⟩
  clear ri rf ro
  have e0 : Ext w ((w.alloc (.cells #[.int .i64 p.st, .slice ti p.ins.length di, .slice tf p.flows.length df, .slice to_ p.outs.length do_] 26)).alloc (.cells #[.int .i64 p.st, .slice ai p.ins.length ci, .slice af p.flows.length cf, .slice ao p.outs.length co] 26)) := ((Chg.refl _ _).alloc _).alloc _
  have y2 : ((w.alloc (.cells #[.int .i64 p.st, .slice ti p.ins.length di, .slice tf p.flows.length df, .slice to_ p.outs.length do_] 26)).alloc (.cells #[.int .i64 p.st, .slice ai p.ins.length ci, .slice af p.flows.length cf, .slice ao p.outs.length co] 26)).cell? ⟨w.heap.size, 2, none⟩ = some (.slice tf p.flows.length df) := by rw [World.cell?_alloc_past _ _ _ (by simp), World.cell?_alloc_at _ _ _ _ rfl]; rfl
  have y3 : ((w.alloc (.cells #[.int .i64 p.st, .slice ti p.ins.length di, .slice tf p.flows.length df, .slice to_ p.outs.length do_] 26)).alloc (.cells #[.int .i64 p.st, .slice ai p.ins.length ci, .slice af p.flows.length cf, .slice ao p.outs.length co] 26)).cell? ⟨w.heap.size, 3, none⟩ = some (.slice to_ p.outs.length do_) := by rw [World.cell?_alloc_past _ _ _ (by simp), World.cell?_alloc_at _ _ _ _ rfl]; rfl
  have z2 : ((w.alloc (.cells #[.int .i64 p.st, .slice ti p.ins.length di, .slice tf p.flows.length df, .slice to_ p.outs.length do_] 26)).alloc (.cells #[.int .i64 p.st, .slice ai p.ins.length ci, .slice af p.flows.length cf, .slice ao p.outs.length co] 26)).cell? ⟨w.heap.size + 1, 2, none⟩ = some (.slice af p.flows.length cf) := by rw [World.cell?_alloc_at _ _ _ _ (by simp)]; rfl
  have z3 : ((w.alloc (.cells #[.int .i64 p.st, .slice ti p.ins.length di, .slice tf p.flows.length df, .slice to_ p.outs.length do_] 26)).alloc (.cells #[.int .i64 p.st, .slice ai p.ins.length ci, .slice af p.flows.length cf, .slice ao p.outs.length co] 26)).cell? ⟨w.heap.size + 1, 3, none⟩ = some (.slice ao p.outs.length co) := by rw [World.cell?_alloc_at _ _ _ _ (by simp)]; rfl
  go_enter Try.func17, Try.ntmps17
  go_wp2_with fail
  generalize ((w.alloc (.cells #[.int .i64 p.st, .slice ti p.ins.length di, .slice tf p.flows.length df, .slice to_ p.outs.length do_] 26)).alloc (.cells #[.int .i64 p.st, .slice ai p.ins.length ci, .slice af p.flows.length cf, .slice ao p.outs.length co] 26)) = w0 at *
  refine (leftIns_any _ _ _ _ (gi.ext e0) (hi.ext e0)).mono ?_
  rintro e w1 ⟨rfl, e1⟩
  have E1 : Ext w w1 := e0.trans e1
  have y2' := Ext.cell e1 y2
  have y3' := Ext.cell e1 y3
  have z2' := Ext.cell e1 z2
  have z3' := Ext.cell e1 z3
  clear e0 e1 y2 y3 z2 z3
  go_wp2_with fail
  refine (leftFlows_any _ _ _ _ (gf.ext E1) (hf.ext E1)).mono ?_
  rintro e w2 ⟨rfl, e2⟩
  have E2 : Ext w w2 := E1.trans e2
  have y3 := Ext.cell e2 y3'
  have z3 := Ext.cell e2 z3'
  clear E1 e2 y2' y3' z2' z3'
  go_wp2_with fail
  refine (leftTexts_any _ _ _ _ (go.ext E2) (ho.ext E2)).mono ?_
  rintro e w3 ⟨rfl, e3⟩
  have E3 : Ext w w3 := E2.trans e3
  clear E2 e3 y3 z3
  go_wp2_with fail
  go_ret
  exact ⟨rfl, E3⟩
end Go.Proofs.Ytjdficgejjkaoaa
