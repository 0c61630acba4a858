/- The rules of beginnings, as a map in memory; lists of numbers of one's own. -/
import Derived.Test.YtcbdeoekehkbiaaSize
import Derived.Carry
import Derived.MapKept
import Derived.Maps.AppendAt
import Derived.Laws.EntriesVeiled
namespace Go.Proofs.Ytcbdeoekehkbiaa
open Go.RowKit
set_option linter.unusedVariables false

/-- A list of numbers of one's own. -/
def InV (w : World) (base : Nat) (l : List Int) (v : Value) : Prop := w.ownsRow base 3 1 v l.length (l.map (Value.int .i64))
theorem InV.form {w : World} {base : Nat} {l : List Int} {v : Value} (h : InV w base l v) : ∃ a cap, v = .slice a l.length cap := by
  rcases h.2 with ⟨h0, h1⟩ | ⟨g, cap, cur, h1, _⟩
  · exact ⟨none, 0, by rw [h0, h1]⟩
  · exact ⟨_, _, h1⟩
theorem InV.get {w : World} {base n : Nat} {l : List Int} {a : Option Addr} {cap : Nat} (h : InV w base l (.slice a n cap)) {i : Nat} {x : Int} (hr : l[i]? = some x) :
    ∃ g, a = some ⟨g, 0, none⟩ ∧ w.cell? ⟨g, i, none⟩ = some (.int .i64 x) := by
  have hi : i < l.length := (List.getElem?_eq_some_iff.1 hr).1
  have h0 := h
  rcases h.2 with ⟨h0, h1⟩ | ⟨g, c', cur, h1, _⟩
  · omega
  · simp only [Value.slice.injEq] at h1
    obtain ⟨rfl, rfl, rfl⟩ := h1
    have c0 := World.ownsRow.cellAt h i (by omega)
    rw [List.getElem?_map, hr] at c0
    exact ⟨g, rfl, c0⟩
theorem InV.chg {w w' : World} {base : Nat} {l : List Int} {v : Value} (h : InV w base l v) {S : Nat → Prop} (hc : Chg S w w') (hS : ∀ g, v.ownBlock = some g → ¬ S g) : InV w' base l v := by
  refine ⟨h.1, ?_⟩
  rcases h.2 with ⟨h0, h1⟩ | ⟨g, cap, cur, h1, h2, h3, h4⟩
  · exact .inl ⟨h0, h1⟩
  · exact .inr ⟨g, cap, cur, h1, h2, (hc.block g (lt_of_block h3) (hS g (by rw [h1]; rfl))).trans h3, h4⟩
theorem InV.nil (w : World) (base : Nat) : InV w base [] (.slice none 0 0) := World.ownsRow_nil _ _ _ _
theorem InV.snoc {w : World} {base : Nat} {l : List Int} {r : Int} {v : Value} (h : w.ownsRow base 3 1 v (l.length + 1) (l.map (Value.int .i64) ++ [.int .i64 r])) : InV w base (l ++ [r]) v := by
  unfold InV
  rw [List.length_append, List.map_append]
  exact h
theorem InV.form1 {w : World} {base : Nat} {l : List Int} {r : Int} {v : Value} (h : InV w base (l ++ [r]) v) : ∃ a cap, v = .slice a (l.length + 1) cap := by
  have := h.form
  simpa using this
theorem infoInt : (Try.prog.info? 3).map (fun i => (i.zero, i.size, i.bytes)) = some (some (.int .i64 0), 1, 8) := by kernel_rfl
/-- The rules' entries. -/
def ruleEs : Array MapEntry := #[⟨.int .u8 19, .func (.func 56) #[] #[], 0⟩, ⟨.int .u8 18, .func (.func 57) #[] #[], 1⟩]
def RulesAt (w : World) (M : Nat) : Prop := w.heap[M]? = some (.map ruleEs 2)
theorem zeroFn (w : World) : (zeroValue 100).run Try.prog w = .ok .nilFunc w := by kernel_rfl
/-- A new key. -/
theorem upd_new {P : Program} {mty kt et : TypeId} {r clock : Nat} {es : Array MapEntry} {q : IntKind} {n : Int} {w : World} (val : Value) (hm : P.underlying mty = some (.map kt et)) (hk : P.underlying kt = some (.int q)) (hb : w.heap[r]? = some (.map es clock))
    (hf : Instr.findNow (.int q) (.int q n) es.toList 0 = some none) : ∃ w', (Instr.mapUpdate mty (.map (some r)) (.int q n) val).run P w = .ok () w' ∧ w'.heap[r]? = some (.map (es.push ⟨.int q n, val, clock⟩) (clock + 1)) ∧ Chg (fun k => k = r) w w' := by
  have hc : (Instr.checkKey false 10000 kt (.int q n)).run P w = .ok () w := MapKept.run_checkKey (k := .int q n) hk (by simp [MapKept.IsKey]) false 9999
  have hlt := lt_of_block hb
  refine ⟨{ w with heap := w.heap.setIfInBounds r (.map (es.push ⟨.int q n, val, clock⟩) (clock + 1)) }, ?_, ?_, ⟨rfl, rfl, rfl, by simp, fun k hk hn => ?_⟩⟩
  · simp [Instr.mapUpdate, run_underlying hm, MapKept.run_getObj_map hb, hc, MapKept.run_findKey hk hf, MapKept.run_setObj_map _ hb, Result.andThen]
  · simp [hlt]
  · simp [Ne.symm hn]
theorem look_at {P : Program} {mty kt et : TypeId} {r clock : Nat} {es : Array MapEntry} {q : IntKind} {n : Int} {w : World} (hm : P.underlying mty = some (.map kt et)) (hk : P.underlying kt = some (.int q)) (hb : w.heap[r]? = some (.map es clock))
    {i : Nat} {v : Value} (hf : Instr.findNow (.int q) (.int q n) es.toList 0 = some (some (i, v))) : (Instr.lookup mty (.map (some r)) (.int q n) true).run P w = .ok (.tuple #[v, .bool true]) w := by
  have hc : (Instr.checkKey es.isEmpty 10000 kt (.int q n)).run P w = .ok () w := MapKept.run_checkKey (k := .int q n) hk (by simp [MapKept.IsKey]) _ 9999
  simp [Instr.lookup, run_underlying hm, MapKept.run_getObj_map hb, hc, MapKept.run_findKey hk hf, Result.andThen]
theorem look_miss' {P : Program} {mty kt et : TypeId} {r clock : Nat} {es : Array MapEntry} {q : IntKind} {n : Int} {w : World} (hm : P.underlying mty = some (.map kt et)) (hk : P.underlying kt = some (.int q)) (hb : w.heap[r]? = some (.map es clock))
    {z : Value} (hz : (zeroValue et).run P w = .ok z w) (hf : Instr.findNow (.int q) (.int q n) es.toList 0 = some none) : (Instr.lookup mty (.map (some r)) (.int q n) true).run P w = .ok (.tuple #[z, .bool false]) w := by
  have hc : (Instr.checkKey es.isEmpty 10000 kt (.int q n)).run P w = .ok () w := MapKept.run_checkKey (k := .int q n) hk (by simp [MapKept.IsKey]) _ 9999
  simp [Instr.lookup, run_underlying hm, MapKept.run_getObj_map hb, hc, MapKept.run_findKey hk hf, hz, Result.andThen]
theorem rules_look19 {w : World} {M : Nat} (h : RulesAt w M) : (Instr.lookup 70 (.map (some M)) (.int .u8 19) true).run Try.prog w = .ok (.tuple #[.func (.func 56) #[] #[], .bool true]) w :=
  look_at Try.underlying70 Try.underlying22 h (i := 0) (by simp [ruleEs, Instr.findNow, Instr.sameNow])
theorem rules_look18 {w : World} {M : Nat} (h : RulesAt w M) : (Instr.lookup 70 (.map (some M)) (.int .u8 18) true).run Try.prog w = .ok (.tuple #[.func (.func 57) #[] #[], .bool true]) w :=
  look_at Try.underlying70 Try.underlying22 h (i := 1) (by simp [ruleEs, Instr.findNow, Instr.sameNow])
theorem rules_look0 {w : World} {M : Nat} (h : RulesAt w M) {op : Int} (h19 : ¬ op = 19) (h18 : ¬ op = 18) : (Instr.lookup 70 (.map (some M)) (.int .u8 op) true).run Try.prog w = .ok (.tuple #[.nilFunc, .bool false]) w :=
  look_miss' Try.underlying70 Try.underlying22 h (zeroFn w) (by
    have e1 : (op == 19) = false := by simpa using h19
    have e2 : (op == 18) = false := by simpa using h18
    simp [ruleEs, Instr.findNow, Instr.sameNow, e1, e2])
set_option maxHeartbeats 1000000 in
theorem rules_one (w : World) : Calls Try.prog 37 #[] w fun e w' => e = .returned (.map (some w.heap.size)) ∧ RulesAt w' w.heap.size ∧ Ext w w' := by
  have hmm := @run_makeMap Try.prog
  have hb0 : (w.alloc (.map #[] 0)).heap[w.heap.size]? = some (.map #[] 0) := heap_alloc_new w _
  obtain ⟨w1, r1, b1, c1⟩ := upd_new (.func (.func 56) #[] #[]) (n := 19) Try.underlying70 Try.underlying22 hb0 rfl
  obtain ⟨w2, r2, b2, c2⟩ := upd_new (.func (.func 57) #[] #[]) (n := 18) Try.underlying70 Try.underlying22 b1 (by simp [Instr.findNow, Instr.sameNow])
  have E2 : Ext w w2 := Ext.then ((Chg.refl _ _).alloc _) (c1.trans c2) (fun b hb => by omega)
  have hR : RulesAt w2 w.heap.size := b2
  clear b1 b2 c1 c2 hb0
  go_enter Try.func37, Try.ntmps37
  go_wp2_with fail
  go_ret
  exact ⟨rfl, hR, E2⟩
end Go.Proofs.Ytcbdeoekehkbiaa
