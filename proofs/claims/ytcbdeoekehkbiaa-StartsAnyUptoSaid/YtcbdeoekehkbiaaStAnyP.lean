/- A program of the names that are asked for: the plain law. -/
import Derived.Test.YtcbdeoekehkbiaaStNms
import Derived.Test.YtcbdeoekehkbiaaSizeB
import Derived.Test.YtcbdeoekehkbiaaRowF2
namespace Go.Proofs.Ytcbdeoekehkbiaa
open Go.RowKit
set_option linter.unusedVariables false
set_option linter.unusedSimpArgs false

def refF (r : Rf) : FlD := ⟨r.1, 0, 0, 0, .mk 0 0 ⟨#[]⟩ []⟩
def refP (r : Rf) : FlD × Value := (refF r, .slice none 0 0)
def anyP (l : List Rf) : PrD := ⟨0, [], l.map refF, []⟩
mutual
theorem nms_size : ∀ (x : Ex) (s : ByteArray), s ∈ nmsE x → s.size ≤ sE x
  | .mk op n nm args, s, h => by
    simp only [nmsE, List.mem_append] at h
    simp only [sE]
    rcases h with h | h
    · by_cases h3 : op = 3
      · rw [if_pos h3] at h
        simp only [List.mem_singleton] at h
        subst h
        omega
      · rw [if_neg h3] at h; simp at h
    · have := nmsL_size args s h
      omega
theorem nmsL_size : ∀ (l : List Ex) (s : ByteArray), s ∈ nmsL l → s.size ≤ sL l
  | [], s, h => by simp [nmsL] at h
  | x :: r, s, h => by
    simp only [nmsL, List.mem_append] at h
    simp only [sL]
    rcases h with h | h
    · have := nms_size x s h; omega
    · have := nmsL_size r s h; omega
end
theorem ref_size {x : Ex} {r : Rf} (h : r ∈ gthE [] 0 x) : r.1.size ≤ sE x := by
  rcases (gth_nms x [] 0 r.1).1 (List.mem_map.2 ⟨r, h, rfl⟩) with h' | h'
  · simp at h'
  · exact nms_size x _ h'
def thereB (p : PrD) (l : List Rf) (i : Nat) : Bool := (l.take i).all fun r => (findP r.1 p.flows p.ins).2.2.2
theorem thereB_step {p : PrD} {l : List Rf} {i : Nat} {r : Rf} (h : l[i]? = some r) : thereB p l (i + 1) = (thereB p l i && (findP r.1 p.flows p.ins).2.2.2) := by
  unfold thereB
  rw [List.take_add_one, h]
  simp
theorem thereB_all (p : PrD) (l : List Rf) : thereB p l l.length = thereP p l := by
  unfold thereB thereP
  rw [List.take_length]
theorem any_there (x : Ex) : thereP (anyP (gthE [] 0 x)) (gthE [] 0 x) = true := by
  unfold thereP
  rw [List.all_eq_true]
  intro r hr
  rw [find_there, namesT_eq]
  exact List.mem_append.2 (.inr (List.mem_map.2 ⟨refF r, List.mem_map.2 ⟨r, hr, rfl⟩, rfl⟩))
/-- What the two answers are. -/
theorem any_law (p : PrD) (x : Ex) : (okE 32 200 x = false → stP p x = (0, 1) ∧ stP (anyP (gthE [] 0 x)) x = (0, 1)) ∧
    (okE 32 200 x = true → stP (anyP (gthE [] 0 x)) x = (ofE x, 0) ∧ stP p x = if thereB p (gthE [] 0 x) (gthE [] 0 x).length = true then (ofE x, 0) else (0, 6)) := by
  rw [thereB_all]
  constructor
  · intro h
    unfold stP
    rw [if_pos h, if_pos h]
    exact ⟨rfl, rfl⟩
  · intro h
    have h' : ¬ okE 32 200 x = false := by rw [h]; simp
    unfold stP
    rw [if_neg h', if_neg h', any_there]
    refine ⟨by simp, ?_⟩
    by_cases ht : thereP p (gthE [] 0 x) = true
    · rw [if_pos ht, if_neg (by rw [ht]; simp)]
    · rw [if_neg ht, if_pos (by simpa using ht)]
theorem exv_nil (w : World) : RdExV w 0 false [] (.slice none 0 0) := ⟨none, 0, rfl, by simp [fitsR], Nat.zero_le _, Nat.zero_le _, RdExs.mk (fun {i x} hx => by simp at hx), fun h => by cases h⟩
/-- Such a program in memory. -/
theorem any_rd {w : World} {base cap : Nat} {a : Option Addr} {l : List Rf} (h : w.ownsRow base 50 8 (.slice a l.length cap) l.length ((l.map refP).flatMap flP)) (hs : ∀ r, r ∈ l → r.1.size ≤ maxLen) (hl : l.length ≤ 100000) :
    RdPr w 0 false (anyP l) #[.int .i64 0, .slice none 0 0, .slice a l.length cap, .slice none 0 0] := by
  have hv : FlV w w base (l.map refF) (.slice a l.length cap) := ⟨l.map refP, by simp [refP, List.map_map, Function.comp_def], by rw [List.length_map]; exact h, fun q hq => by
    obtain ⟨r, hr, rfl⟩ := List.mem_map.1 hq
    exact ⟨⟨hs r hr, by simp [refP, refF, isU8], by simp [refP, refF, isI64], by simp [refP, refF, isI64], by simp [refP, refF, isU8, Ex.op], by simp [refP, refF, isI64, Ex.n], by simp [refP, refF, Ex.name, ByteArray.size]⟩, exv_nil w⟩⟩
  exact ⟨_, _, _, rfl, by simp [anyP, isI64], ⟨none, 0, rfl, by simp [fitsR, anyP], Nat.zero_le _, Nat.zero_le _, fun i x hx => by simp [anyP] at hx, fun h => by cases h⟩, hv.rd (Chg.refl _ _) (by rw [List.length_map]; unfold fitsR; omega),
    ⟨none, 0, rfl, by simp [fitsR, anyP], Nat.zero_le _, Nat.zero_le _, fun i x hx => by simp [anyP] at hx, fun h => by cases h⟩⟩
end Go.Proofs.Ytcbdeoekehkbiaa
