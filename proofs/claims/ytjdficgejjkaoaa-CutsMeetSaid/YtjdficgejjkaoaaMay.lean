/- progs.may, progs.Check's closures, and the document's is. -/
import Derived.Test.YtjdficgejjkaoaaRefSz
namespace Go.Proofs.Ytjdficgejjkaoaa
open Go.RowKit
set_option linter.unusedVariables false
set_option linter.unusedSimpArgs false

/-- May a flow be, by its name, its type and its station? -/
def mayP (st : Int) (nm : ByteArray) (t a : Int) : Bool := nameP nm && (decide (t = 1) || decide (t = 2)) && decide (1 ≤ a) && decide (a ≤ st)
def inBad (st : Int) (x : InD) : Bool := !mayP st x.name x.ty x.st
def flBad (st : Int) (x : FlD) : Bool := !mayP st x.name x.ty x.st || decide (x.df = -9223372036854775808) || !okE 32 200 x.body
/-- The plain answer: may a program be? -/
def progP (p : PrD) : Bool := decide (1 ≤ p.st) && decide (p.st ≤ 8) && decide (p.ins.length ≤ 64) && decide (p.flows.length ≤ 128) && decide (p.outs.length ≤ p.ins.length + p.flows.length) &&
  !(p.ins.any (inBad p.st)) && !(p.flows.any (flBad p.st)) && !(p.outs.any fun s => !nameP s)
def RetV (b : Bool) (w : World) (e : Ending) (w' : World) : Prop := e = .returned (.bool b) ∧ Ext w w'
theorem retV {a b : Bool} {w w' : World} (h : a = b) (hE : Ext w w') : RetV b w (.returned (.bool a)) w' := ⟨by rw [h], hE⟩

set_option maxHeartbeats 1000000 in
theorem may_one (st : Int) (nm : ByteArray) (t a : Int) (hs : nm.size ≤ maxLen) (w : World) : Calls Try.prog 73 #[.int .i64 st, .string nm, .int .u8 t, .int .i64 a] w (RetV (mayP st nm t a) w) := by
  have hn := name_one nm hs w
  unfold mayP
  generalize nameP nm = b at *
  go_enter Try.func73, Try.ntmps73
  go_wp2_with fail
  refine hn.mono ?_
  rintro e w1 ⟨rfl, hE⟩
  cases b
  · (go_wp2_with fail; go_ret)
    exact retV (by simp) hE
  · by_cases h1 : 1 ≤ a
    · by_cases h2 : a ≤ st
      · by_cases t1 : t = 1
        · subst t1
          (go_wp2_with fail; go_ret)
          exact retV (by simp [h1, h2]) hE
        · have b1 : (t == 1) = false := by simpa using t1
          by_cases t2 : t = 2
          · subst t2
            (go_wp2_with fail; go_ret)
            exact retV (by simp [h1, h2]) hE
          · have b2 : (t == 2) = false := by simpa using t2
            (go_wp2_with fail; go_ret)
            exact retV (by simp [t1, t2]) hE
      · by_cases t1 : t = 1
        · subst t1
          (go_wp2_with fail; go_ret)
          exact retV (by simp [h1, h2]) hE
        · have b1 : (t == 1) = false := by simpa using t1
          by_cases t2 : t = 2
          · subst t2
            (go_wp2_with fail; go_ret)
            exact retV (by simp [h1, h2]) hE
          · have b2 : (t == 2) = false := by simpa using t2
            (go_wp2_with fail; go_ret)
            exact retV (by simp [t1, t2]) hE
    · by_cases t1 : t = 1
      · subst t1
        (go_wp2_with fail; go_ret)
        exact retV (by simp [h1]; try omega) hE
      · have b1 : (t == 1) = false := by simpa using t1
        by_cases t2 : t = 2
        · subst t2
          (go_wp2_with fail; go_ret)
          exact retV (by simp [h1]; try omega) hE
        · have b2 : (t == 2) = false := by simpa using t2
          (go_wp2_with fail; go_ret)
          exact retV (by simp [t1, t2]) hE
set_option maxHeartbeats 1000000 in
theorem refIs_one (st : Int) (vi vf vo : Value) (nm : ByteArray) (t a : Int) (hs : nm.size ≤ maxLen) (w : World) (hi : ∃ ai n c, vi = .slice ai n c) (hf : ∃ ai n c, vf = .slice ai n c) (ho : ∃ ai n c, vo = .slice ai n c) :
    Calls Try.prog 85 #[.agg #[.int .i64 st, vi, vf, vo], .string nm, .int .u8 t, .int .i64 a] w (RetV (mayP st nm t a) w) := by
  obtain ⟨ai, ni, ci, rfl⟩ := hi
  obtain ⟨af, nf, cf, rfl⟩ := hf
  obtain ⟨ao, no, co, rfl⟩ := ho
  have hn := refName_one nm hs (w.alloc (.cells #[.int .i64 st, .slice ai ni ci, .slice af nf cf, .slice ao no co] 26))
  have y0 : (w.alloc (.cells #[.int .i64 st, .slice ai ni ci, .slice af nf cf, .slice ao no co] 26)).cell? ⟨w.heap.size, 0, none⟩ = some (.int .i64 st) := by rw [World.cell?_alloc_at _ _ _ _ rfl]; rfl
  have hE0 : Ext w (w.alloc (.cells #[.int .i64 st, .slice ai ni ci, .slice af nf cf, .slice ao no co] 26)) := (Chg.refl _ _).alloc _
  unfold mayP
  generalize nameP nm = b at *
  go_enter Try.func85, Try.ntmps85
  go_wp2_with fail
  generalize (w.alloc (.cells #[.int .i64 st, .slice ai ni ci, .slice af nf cf, .slice ao no co] 26)) = w0 at *
  refine hn.mono ?_
  rintro e w1 ⟨rfl, hE⟩
  have y1 := Ext.cell hE y0
  have E1 := hE0.trans hE
  clear y0
  cases b
  · (go_wp2_with fail; go_ret)
    exact retV (by simp) E1
  · by_cases h1 : 1 ≤ a
    · by_cases h2 : a ≤ st
      · by_cases t1 : t = 1
        · subst t1
          (go_wp2_with fail; go_ret)
          exact retV (by simp [h1, h2]) E1
        · have b1 : (t == 1) = false := by simpa using t1
          by_cases t2 : t = 2
          · subst t2
            (go_wp2_with fail; go_ret)
            exact retV (by simp [h1, h2]) E1
          · have b2 : (t == 2) = false := by simpa using t2
            (go_wp2_with fail; go_ret)
            exact retV (by simp [t1, t2]) E1
      · by_cases t1 : t = 1
        · subst t1
          (go_wp2_with fail; go_ret)
          exact retV (by simp [h1, h2]) E1
        · have b1 : (t == 1) = false := by simpa using t1
          by_cases t2 : t = 2
          · subst t2
            (go_wp2_with fail; go_ret)
            exact retV (by simp [h1, h2]) E1
          · have b2 : (t == 2) = false := by simpa using t2
            (go_wp2_with fail; go_ret)
            exact retV (by simp [t1, t2]) E1
    · by_cases t1 : t = 1
      · subst t1
        (go_wp2_with fail; go_ret)
        exact retV (by simp [h1]; try omega) E1
      · have b1 : (t == 1) = false := by simpa using t1
        by_cases t2 : t = 2
        · subst t2
          (go_wp2_with fail; go_ret)
          exact retV (by simp [h1]; try omega) E1
        · have b2 : (t == 2) = false := by simpa using t2
          (go_wp2_with fail; go_ret)
          exact retV (by simp [t1, t2]) E1
/-- The closure over what comes from without. -/
theorem inBad_one (x : InD) (st : Int) (B : Nat) (w : World) (hs : x.name.size ≤ maxLen) (hb : w.cell? ⟨B, 0, none⟩ = some (.int .i64 st)) :
    Calls Try.prog 72 #[.agg #[.string x.name, .int .u8 x.ty, .int .i64 x.st], .pointer (some ⟨B, 0, none⟩)] w (RetV (inBad st x) w) := by
  have hE0 : Ext w (w.alloc (.cells #[.string x.name, .int .u8 x.ty, .int .i64 x.st] 59)) := (Chg.refl _ _).alloc _
  have y0 := Ext.cell hE0 hb
  unfold inBad
  have hm := may_one st x.name x.ty x.st hs (w.alloc (.cells #[.string x.name, .int .u8 x.ty, .int .i64 x.st] 59))
  generalize mayP st x.name x.ty x.st = b at *
  go_enter Try.func72, Try.ntmps72
  go_wp2_with fail
  refine hm.mono ?_
  rintro e w1 ⟨rfl, hE⟩
  go_wp2_with fail
  go_ret
  exact retV rfl (hE0.trans hE)
set_option maxHeartbeats 1000000 in
theorem flBad_one (x : FlD) (v : Value) (st : Int) (B : Nat) (w : World) (hs : x.name.size ≤ maxLen) (hv : RdExV w 0 false x.body.args v) (hbn : x.body.name.size ≤ maxLen) (hb : w.cell? ⟨B, 0, none⟩ = some (.int .i64 st)) :
    Calls Try.prog 75 #[.agg #[.string x.name, .int .u8 x.ty, .int .i64 x.st, .int .i64 x.df, .int .u8 x.body.op, .int .i64 x.body.n, .string x.body.name, v], .pointer (some ⟨B, 0, none⟩)] w (RetV (flBad st x) w) := by
  have hm := may_one st x.name x.ty x.st hs
  have hck := fun (W : World) (hE : Ext w W) => exCheck_any x.body v W (hv.ext hE) hbn
  obtain ⟨a, cap, rfl, _⟩ := hv.form
  have hE0 : Ext w (w.alloc (.cells #[.string x.name, .int .u8 x.ty, .int .i64 x.st, .int .i64 x.df, .int .u8 x.body.op, .int .i64 x.body.n, .string x.body.name, .slice a x.body.args.length cap] 55)) := (Chg.refl _ _).alloc _
  have y0 := Ext.cell hE0 hb
  have xb : (w.alloc (.cells #[.string x.name, .int .u8 x.ty, .int .i64 x.st, .int .i64 x.df, .int .u8 x.body.op, .int .i64 x.body.n, .string x.body.name, .slice a x.body.args.length cap] 55)).heap[w.heap.size]? = some (.cells #[.string x.name, .int .u8 x.ty, .int .i64 x.st, .int .i64 x.df, .int .u8 x.body.op, .int .i64 x.body.n, .string x.body.name, .slice a x.body.args.length cap] 55 (0, 0)) := heap_alloc_new _ _
  have hm := hm (w.alloc (.cells #[.string x.name, .int .u8 x.ty, .int .i64 x.st, .int .i64 x.df, .int .u8 x.body.op, .int .i64 x.body.n, .string x.body.name, .slice a x.body.args.length cap] 55))
  have HM := Lib.hid hm
  have HK := Lib.hid hck
  clear hm hck
  unfold flBad at *
  generalize hmb : mayP st x.name x.ty x.st = b
  generalize hob : okE 32 200 x.body = r
  go_enter Try.func75, Try.ntmps75
  go_wp2_with fail
  generalize (w.alloc (.cells #[.string x.name, .int .u8 x.ty, .int .i64 x.st, .int .i64 x.df, .int .u8 x.body.op, .int .i64 x.body.n, .string x.body.name, .slice a x.body.args.length cap] 55)) = w0 at *
  refine HM.out.mono ?_
  rintro e w1 ⟨he, hE⟩
  rw [hmb] at he
  subst he
  have E1 := hE0.trans hE
  have xb1 := Ext.heap hE xb
  clear xb y0
  have x3 := blk_cell xb1 3
  have x4 := blk_cell xb1 4
  have x5 := blk_cell xb1 5
  have x6 := blk_cell xb1 6
  have x7 := blk_cell xb1 7
  simp only [List.getElem?_toArray, List.getElem?_cons_zero, List.getElem?_cons_succ] at x3 x4 x5 x6 x7
  cases b
  · go_wp2_with fail
    go_ret
    exact retV rfl E1
  · by_cases hd : x.df = -9223372036854775808
    · have hd2 : (x.df == -9223372036854775808) = true := by simpa using hd
      go_wp2_with fail
      go_ret
      exact retV (by simp [hd]) E1
    · have hd2 : (x.df == -9223372036854775808) = false := by simpa using hd
      go_wp2_with fail
      refine (HK.out _ E1).mono ?_
      rintro e w2 ⟨he, hE2⟩
      rw [hob] at he
      subst he
      go_wp2_with fail
      go_ret
      exact retV (by simp [hd]) (E1.trans hE2)
theorem sBad_one (s : ByteArray) (w : World) (hs : s.size ≤ maxLen) : Calls Try.prog 78 #[.string s] w (RetV (!nameP s) w) := by
  have hm := name_one s hs w
  generalize nameP s = b at *
  go_enter Try.func78, Try.ntmps78
  go_wp2_with fail
  refine hm.mono ?_
  rintro e w1 ⟨rfl, hE⟩
  go_wp2_with fail
  go_ret
  exact retV rfl hE

end Go.Proofs.Ytjdficgejjkaoaa
