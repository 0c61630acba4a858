/- The code's group and the reference's keep in step: plain facts. -/
import Derived.Test.YtpkeclkfgfkddaaWalkS
import Derived.Test.YtpkeclkfgfkddaaLives
namespace Go.Proofs.Ytpkeclkfgfkddaa
open Go.RowKit
set_option linter.unusedVariables false

structure Live (n s : Nat) (f : Nat → Bool) (r : Nat → Int) (A T K : Nat → Bool) (R : Int) : Prop where
  mem : ∀ j, j < 8 → f j = (decide (j < n) && A (j + 1))
  self : f s = true
  told : ∀ j, j < 8 → T (j + 1) = (r j != 0)
  took : ∀ j, j < 8 → K (j + 1) = (r j == 2)
  refu : R = cnt r 3 8
  rs : r s = 0
  beyond : ∀ j, n ≤ j → r j = 0
structure Sim (n s : Nat) (f : Nat → Bool) (r : Nat → Int) (A T K : Nat → Bool) (R : Int) (G : Bool) : Prop where
  gone : G = true → S8 f = 0
  live : G = false → Live n s f r A T K R

theorem Sim.members {n s : Nat} {f : Nat → Bool} {r : Nat → Int} {A T K : Nat → Bool} {R : Int} {G : Bool} (h : Sim n s f r A T K R G) : memR A n G = S8 f := by
  cases G
  · exact (S8_congr (h.live rfl).mem).symm
  · exact (h.gone rfl).symm
theorem Live.nz {n s : Nat} {f : Nat → Bool} {r : Nat → Int} {A T K : Nat → Bool} {R : Int} (h : Live n s f r A T K R) (hs : s < 8) : S8 f ≠ 0 := by
  intro h0
  have := (S8_zero f).1 h0 s hs
  rw [h.self] at this
  exact absurd this (by simp)

theorem cnt_upd (r : Nat → Int) (k : Nat) (v x : Int) (h0 : r k ≠ x) : ∀ i : Nat, cnt (upd r k v) x i = cnt r x i + (if k < i ∧ v = x then 1 else 0)
  | 0 => by simp [cnt]
  | i + 1 => by
    have ih := cnt_upd r k v x h0 i
    unfold cnt
    rw [ih]
    unfold upd
    by_cases e : i = k
    · subst e
      rw [if_pos rfl, if_neg h0, if_neg (by omega)]
      by_cases hv : v = x
      · rw [if_pos hv, if_pos (show i < i + 1 ∧ v = x from ⟨by omega, hv⟩)]
      · rw [if_neg hv, if_neg (show ¬ (i < i + 1 ∧ v = x) from fun h => hv h.2)]
    · rw [if_neg e]
      by_cases hv : k < i ∧ v = x
      · rw [if_pos hv, if_pos (show k < i + 1 ∧ v = x from ⟨by omega, hv.2⟩)]; omega
      · rw [if_neg hv, if_neg (show ¬ (k < i + 1 ∧ v = x) from fun h => hv ⟨by omega, h.2⟩)]; omega
theorem cnt_beyond (r : Nat → Int) (x : Int) (hx : x ≠ 0) (n : Nat) (h : ∀ j, n ≤ j → r j = 0) : ∀ d : Nat, cnt r x (n + d) = cnt r x n
  | 0 => rfl
  | d + 1 => by
    have ih := cnt_beyond r x hx n h d
    show cnt r x (n + d) + (if r (n + d) = x then 1 else 0) = _
    rw [ih, h (n + d) (by omega), if_neg (fun e => hx e.symm)]; omega
theorem cntB_cnt (K : Nat → Bool) (r : Nat → Int) : ∀ n : Nat, (∀ j, j < n → K (j + 1) = (r j == 2)) → cntB K (n + 1) = cnt r 2 n
  | 0, _ => by simp [cntB, cnt]
  | n + 1, h => by
    have ih := cntB_cnt K r n (fun j hj => h j (by omega))
    show cntB K (n + 1) + _ = cnt r 2 n + _
    rw [ih, h n (by omega)]
    by_cases e : r n = 2
    · rw [if_pos ⟨by omega, by simp [e]⟩, if_pos e]
    · rw [if_neg (by rintro ⟨_, h2⟩; exact e (by simpa using h2)), if_neg e]

/-- What the reference's Heard answers. -/
def rheardC (n s : Nat) (T : Nat → Bool) (G : Bool) (st : Int) : Int :=
  if G = true then 11 else if st < 1 ∨ (n : Int) < st ∨ st = (s : Int) + 1 then 1 else if T ((st - 1).toNat + 1) = true then 11 else 0
def rheardT (n s : Nat) (T : Nat → Bool) (G : Bool) (st : Int) : Nat → Bool := if rheardC n s T G st = 0 then upd T ((st - 1).toNat + 1) true else T
def rheardK (n s : Nat) (A T K : Nat → Bool) (G : Bool) (st : Int) (came : Bool) (mem : Int) : Nat → Bool := if rheardC n s T G st = 0 then rhK n A K (st - 1).toNat came mem else K
def rheardR (n s : Nat) (A T : Nat → Bool) (R : Int) (G : Bool) (st : Int) (came : Bool) (mem : Int) : Int := if rheardC n s T G st = 0 then rhR n A R (st - 1).toNat came mem else R
theorem rheard_any (b n s : Nat) (A T K : Nat → Bool) (R : Int) (G : Bool) (st : Int) (came : Bool) (mem : Int) (w : World) (h : Rg w b n s A T K R G) (hR : 0 ≤ R ∧ R ≤ 100) :
    Calls Try.prog 14 #[.pointer (some ⟨b, 0, none⟩), .int .i64 st, .bool came, .int .u8 mem] w fun e w' => e = .returned (.int .i64 (rheardC n s T G st)) ∧
      Rg w' b n s A (rheardT n s T G st) (rheardK n s A T K G st came mem) (rheardR n s A T R G st came mem) G ∧ Chg (· = b) w w' := by
  have stay : ∀ c : Int, c ≠ 0 → rheardC n s T G st = c → Rg w b n s A (rheardT n s T G st) (rheardK n s A T K G st came mem) (rheardR n s A T R G st came mem) G := by
    intro c hc e
    unfold rheardT rheardK rheardR
    rw [if_neg (by omega), if_neg (by omega), if_neg (by omega)]
    exact h
  cases G
  · by_cases ha : st < 1 ∨ (n : Int) < st ∨ st = (s : Int) + 1
    · have e1 : rheardC n s T false st = 1 := by unfold rheardC; rw [if_neg (by simp), if_pos ha]
      refine (rheard_arg b n s A T K R st came mem w h ha).mono ?_
      rintro e w' ⟨rfl, rfl⟩
      exact ⟨by rw [e1], stay 1 (by omega) e1, Chg.refl _ _⟩
    · obtain ⟨k, rfl⟩ : ∃ k : Nat, st = (k : Int) + 1 := ⟨(st - 1).toNat, by omega⟩
      have ek : ((k : Int) + 1 - 1).toNat = k := by omega
      cases hT : T (k + 1)
      · have e1 : rheardC n s T false (k + 1) = 0 := by unfold rheardC; rw [if_neg (by simp), if_neg ha, ek, if_neg (by rw [hT]; simp)]
        refine (rheard_ok b n s A T K R k came mem w h (by omega) (by omega) hT hR).mono ?_
        rintro e w' ⟨rfl, h2, h3⟩
        refine ⟨by rw [e1], ?_, h3⟩
        unfold rheardT rheardK rheardR
        rw [if_pos e1, if_pos e1, if_pos e1, ek]
        exact h2
      · have e1 : rheardC n s T false (k + 1) = 11 := by unfold rheardC; rw [if_neg (by simp), if_neg ha, ek, if_pos hT]
        refine (rheard_told b n s A T K R k came mem w h (by omega) (by omega) hT).mono ?_
        rintro e w' ⟨rfl, rfl⟩
        exact ⟨by rw [e1], stay 11 (by omega) e1, Chg.refl _ _⟩
  · have e1 : rheardC n s T true st = 11 := by unfold rheardC; rw [if_pos rfl]
    refine (rheard_gone b n s A T K R st came mem w h).mono ?_
    rintro e w' ⟨rfl, rfl⟩
    exact ⟨by rw [e1], stay 11 (by omega) e1, Chg.refl _ _⟩

theorem Sim.heardC {n s : Nat} {f : Nat → Bool} {r : Nat → Int} {A T K : Nat → Bool} {R : Int} {G : Bool} (h : Sim n s f r A T K R G) (n8 : n ≤ 8) (hs : s < n) (st : Int) : rheardC n s T G st = heardC n s f r st := by
  unfold rheardC Ytpkeclkfgfkddaa.heardC
  cases G
  · have l := h.live rfl
    rw [if_neg (by simp), if_neg (l.nz (by omega))]
    by_cases ha : st < 1 ∨ (n : Int) < st ∨ st = (s : Int) + 1
    · rw [if_pos ha, if_pos ha]
    · obtain ⟨k, rfl⟩ : ∃ k : Nat, st = (k : Int) + 1 := ⟨(st - 1).toNat, by omega⟩
      have ek : ((k : Int) + 1 - 1).toNat = k := by omega
      rw [if_neg ha, if_neg ha, ek, l.told _ (by omega)]
      by_cases e : r k = 0
      · rw [if_neg (by simp [e]), if_neg (by simp [e])]
      · rw [if_pos (by simpa using e), if_pos e]
  · rw [if_pos rfl, if_pos (h.gone rfl)]
theorem Sim.heard {n s : Nat} {f : Nat → Bool} {r : Nat → Int} {A T K : Nat → Bool} {R : Int} {G : Bool} (h : Sim n s f r A T K R G) (n8 : n ≤ 8) (hs : s < n) (st : Int) (came : Bool) (mem : Int) :
    Sim n s f (heardR n s f r st came mem) A (rheardT n s T G st) (rheardK n s A T K G st came mem) (rheardR n s A T R G st came mem) G := by
  have hc := h.heardC n8 hs st
  unfold heardR rheardT rheardK rheardR
  rw [hc]
  by_cases h0 : Ytpkeclkfgfkddaa.heardC n s f r st = 0
  · simp only [if_pos h0]
    have hm := h.members
    cases G
    · refine ⟨fun h => by simp at h, fun _ => ?_⟩
      have l := h.live rfl
      unfold Ytpkeclkfgfkddaa.heardC at h0
      rw [if_neg (l.nz (by omega))] at h0
      by_cases ha : st < 1 ∨ (n : Int) < st ∨ st = (s : Int) + 1
      · rw [if_pos ha] at h0; omega
      rw [if_neg ha] at h0
      obtain ⟨k, rfl⟩ : ∃ k : Nat, st = (k : Int) + 1 := ⟨(st - 1).toNat, by omega⟩
      have ek : ((k : Int) + 1 - 1).toNat = k := by omega
      rw [ek] at h0 ⊢
      have hk : k < n := by omega
      have hks : k ≠ s := by omega
      by_cases hr : r k = 0
      · have hfk : f k = A (k + 1) := by rw [l.mem k (by omega)]; simp [hk]
        have hv : (heardV f k came mem = 1 ∧ rhK n A K k came mem = K ∧ rhR n A R k came mem = R) ∨ (heardV f k came mem = 2 ∧ rhK n A K k came mem = upd K (k + 1) true ∧ rhR n A R k came mem = R) ∨
            (heardV f k came mem = 3 ∧ rhK n A K k came mem = K ∧ rhR n A R k came mem = R + 1) := by
          unfold heardV rhK rhR
          rw [hm, hfk]
          cases came <;> cases A (k + 1) <;> by_cases e : mem = S8 f <;> simp [e]
        have hvr : heardV f k came mem ≠ 0 := by rcases hv with ⟨h1, _⟩ | ⟨h1, _⟩ | ⟨h1, _⟩ <;> omega
        refine ⟨l.mem, l.self, fun j hj => ?_, fun j hj => ?_, ?_, ?_, fun j hj => ?_⟩
        · unfold upd
          by_cases e : j = k
          · subst e; rw [if_pos rfl, if_pos rfl]; simp [hvr]
          · rw [if_neg (by omega), if_neg e]; exact l.told j hj
        · by_cases e : j = k
          · subst e
            have := l.took j hj
            rw [hr] at this
            rcases hv with ⟨h1, h2, h3⟩ | ⟨h1, h2, h3⟩ | ⟨h1, h2, h3⟩ <;> rw [h1, h2] <;> simp [upd, this]
          · have hK : rhK n A K k came mem (j + 1) = K (j + 1) := by
              rcases hv with ⟨h1, h2, h3⟩ | ⟨h1, h2, h3⟩ | ⟨h1, h2, h3⟩ <;> rw [h2]
              unfold upd; rw [if_neg (by omega)]
            rw [hK, l.took j hj]
            unfold upd; rw [if_neg e]
        · rw [cnt_upd r k _ 3 (by omega)]
          rcases hv with ⟨h1, h2, h3⟩ | ⟨h1, h2, h3⟩ | ⟨h1, h2, h3⟩ <;> rw [h1, h3, l.refu]
          · rw [if_neg (by omega)]; omega
          · rw [if_neg (by omega)]; omega
          · rw [if_pos (by omega)]
        · unfold upd; rw [if_neg (fun e => hks e.symm)]; exact l.rs
        · unfold upd; rw [if_neg (by omega)]; exact l.beyond j hj
      · rw [if_pos hr] at h0; omega
    · exact ⟨fun _ => h.gone rfl, fun h => by simp at h⟩
  · simp only [if_neg h0]
    exact h
theorem Sim.endG {n s : Nat} {f : Nat → Bool} {r : Nat → Int} {A T K : Nat → Bool} {R : Int} (h : Live n s f r A T K R) (n8 : n ≤ 8) : decide (1 + cntB K (n + 1) ≤ R) = decide (1 + cnt r 2 8 ≤ cnt r 3 8) := by
  have e1 : cntB K (n + 1) = cnt r 2 n := cntB_cnt K r n (fun j hj => h.took j (by omega))
  have e2 := cnt_beyond r 2 (by omega) n h.beyond (8 - n)
  rw [show n + (8 - n) = 8 from by omega] at e2
  rw [e1, ← e2, h.refu]
theorem Sim.end {n s : Nat} {f : Nat → Bool} {r : Nat → Int} {A T K : Nat → Bool} {R : Int} (h : Live n s f r A T K R) (n8 : n ≤ 8) (hs : s < n) :
    Sim n s (endF s r) (fun _ => 0) (cutA s A K (n + 1)) (cut T (n + 1)) (cut K (n + 1)) 0 (decide (1 + cntB K (n + 1) ≤ R)) := by
  rw [Sim.endG h n8]
  refine ⟨fun hg => ?_, fun hg => ?_⟩
  · rw [S8_zero]; intro j _; unfold endF; rw [if_pos (by simpa using hg)]
  · have hg' : ¬ (1 + cnt r 2 8 ≤ cnt r 3 8) := by simpa using hg
    have e : endF s r = fun j => j == s || r j == 2 := by unfold endF; rw [if_neg hg']
    refine ⟨fun j hj => ?_, by rw [e]; simp, fun j hj => ?_, fun j hj => ?_, by decide, rfl, fun _ _ => rfl⟩
    · rw [e]
      by_cases hjn : j < n
      · unfold cutA; rw [if_pos (by omega), h.took j hj]
        simp [hjn]
      · have hjs : j ≠ s := by omega
        simp [hjn, hjs, h.beyond j (by omega)]
    · unfold cut
      by_cases hjn : j < n
      · rw [if_pos (by omega)]; rfl
      · rw [if_neg (by omega), h.told j hj, h.beyond j (by omega)]
    · unfold cut
      by_cases hjn : j < n
      · rw [if_pos (by omega)]; rfl
      · rw [if_neg (by omega), h.took j hj, h.beyond j (by omega)]
theorem Sim.start (n s : Nat) (n8 : n ≤ 8) (hs : s < n) : Sim n s (fun j => decide (j < n)) (fun _ => 0) (upTo n) (fun _ => false) (fun _ => false) 0 false := by
  refine ⟨fun h => by simp at h, fun _ => ⟨fun j hj => ?_, by simpa using hs, fun _ _ => rfl, fun _ _ => rfl, by decide, rfl, fun _ _ => rfl⟩⟩
  unfold upTo
  by_cases h : j < n <;> simp [h]
theorem Sim.refR {n s : Nat} {f : Nat → Bool} {r : Nat → Int} {A T K : Nat → Bool} {R : Int} {G : Bool} (h : Sim n s f r A T K R G) (hR : G = true → 0 ≤ R ∧ R ≤ 100) : 0 ≤ R ∧ R ≤ 100 := by
  cases G
  · have := (h.live rfl).refu; have := cnt_range r 3 8; omega
  · exact hR rfl
end Go.Proofs.Ytpkeclkfgfkddaa
