/- A flow more that asks for one of the others, as it is: how late it is. -/
import Derived.Test.YtjdficgejjkaoaaLateQ
import Derived.Test.YtjdficgejjkaoaaKnown
namespace Go.Proofs.Ytjdficgejjkaoaa
open Go.RowKit
set_option linter.unusedVariables false
set_option linter.unusedSimpArgs false

theorem look_nodupM {y : Thing} : ∀ {l : List Thing}, (l.map (·.1)).Nodup → y ∈ l → lookT y.1 l = (y.2.1, y.2.2.1, y.2.2.2, true)
  | [], _, h => by simp at h
  | x :: r, hn, h => by
    simp only [List.map_cons, List.nodup_cons] at hn
    unfold lookT
    rcases List.mem_cons.1 h with rfl | h
    · rw [if_pos rfl]
    · rw [if_neg (fun e => hn.1 (by rw [e]; exact List.mem_map.2 ⟨y, h, rfl⟩)), look_nodupM hn.2 h]
theorem find_inM {p : PrD} (h : okN p) {k : Nat} {x : InD} (hx : p.ins[k]? = some x) : findP x.name p.flows p.ins = (x.st, x.ty, -1, true) := by
  rw [findP_look]
  exact look_nodupM (y := inT x) h.1 (List.mem_append.2 (.inl (List.mem_map.2 ⟨x, List.mem_of_getElem? hx, rfl⟩)))
theorem find_flM {p : PrD} (h : okN p) {k : Nat} {x : FlD} (hx : p.flows[k]? = some x) : findP x.name p.flows p.ins = (x.st, x.ty, (k : Int), true) := by
  rw [findP_look]
  have hk : k < p.flows.length := (List.getElem?_eq_some_iff.1 hx).1
  have hm := flTs_at 0 p.flows k hk
  rw [hx] at hm
  have := look_nodupM (y := flT k x) h.1 (List.mem_append.2 (.inr (List.mem_of_getElem? (i := k) (by rw [hm, Nat.zero_add]; rfl))))
  exact this
def sMore : ByteArray := ⟨#[109, 111, 114, 101]⟩
def moreF (s : Int) (nm : ByteArray) : FlD := ⟨sMore, 1, s, 0, nmE nm⟩
def farP (s t : Int) : Int := if s = t then 0 else 1
theorem asks_moreF {p : PrD} (h : okN p) {k : Nat} {x : FlD} (hx : p.flows[k]? = some x) (s : Int) : asksOf (moreP p (moreF s x.name)) p.flows.length (moreF s x.name) = [⟨p.flows.length, k, farP s x.st, (x.name, 0)⟩] := by
  have hf := find_flM h hx
  have hg : gthE [] 0 (moreF s x.name).body = [(x.name, 0)] := by simp [moreF, nmE, gthE, gthL, stepR]
  have hf2 : findP x.name (moreP p (moreF s x.name)).flows (moreP p (moreF s x.name)).ins = (x.st, x.ty, (k : Int), true) := by
    have := findP_app (g := moreF s x.name) (s := x.name) (fl := p.flows) (l := p.ins) (by rw [hf])
    rw [hf] at this
    exact this
  unfold asksOf
  rw [hg]
  simp only [List.map_cons, List.map_nil, askOf, hf2]
  congr 1
  unfold farP
  show Ask.mk _ _ (if x.st = s then _ else _) _ = _
  by_cases e : x.st = s
  · rw [if_pos e, if_pos e.symm]; rfl
  · rw [if_neg e, if_neg (fun h => e h.symm)]; rfl
theorem more_law {p : PrD} {l m : List Int} {k : Nat} {x : FlD} {s : Int} (hp : namesP p = 0) (hl : Least p l) (hx : p.flows[k]? = some x) (hm : Least (moreP p (moreF s x.name)) m) : m = l ++ [l.getD k 0 + farP s x.st] := by
  have hk : k < p.flows.length := (List.getElem?_eq_some_iff.1 hx).1
  have ha := asks_moreF (names_okN hp) hx s
  have hr := getD_rng hl.1.2.1 k
  have hq : leastA l ⟨p.flows.length, k, farP s x.st, (x.name, 0)⟩ = l.getD k 0 + farP s x.st := by
    unfold leastA
    simp only
    rw [if_neg (by omega)]
    simp
  have hf0 : 0 ≤ farP s x.st ∧ farP s x.st ≤ 1 := by unfold farP; split <;> omega
  by_cases h1 : leastA l ⟨p.flows.length, k, farP s x.st, (x.name, 0)⟩ ≤ 1000
  · have := (least_more hp ha (by show (k : Int) < _; have := hl.1.1; omega) hl h1).unique hm
    rw [← this, hq, Int.max_eq_right (by omega)]
  · exact absurd hm.1 (none_more hp ha (by show (k : Int) < _; omega) hl (by omega) m)
end Go.Proofs.Ytjdficgejjkaoaa
