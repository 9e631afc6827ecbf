/- RingOnce's plain law: what was claimed lies in the window or went, just once, in order. -/
import Derived.Test.YtfackochjlccpaaRingY
namespace Go.Proofs.Ytfackochjlccpaa
open Go Go.RowKit
set_option linter.unusedVariables false
set_option linter.unusedSimpArgs false
def upto (n : Nat) : List Int := (List.range n).map fun j : Nat => (j : Int) + 1
theorem upto_len (n : Nat) : (upto n).length = n := by simp [upto]
theorem upto_at {n k : Nat} (h : k < n) : (upto n)[k]? = some ((k : Int) + 1) := by simp [upto, List.getElem?_range h]
theorem upto_succ (n : Nat) : upto (n + 1) = upto n ++ [(n : Int) + 1] := by simp [upto, List.range_succ]
/-- The window's references are the offsets and 1; done tells what is published. -/
structure OnceP (s : RSt) (ds : List Bool) : Prop where
  len : ds.length = s.t
  pl : ∀ (j : Nat) (x : Int) (d : Bool), s.L[j]? = some (x, d) → x = (s.h : Int) + j + 1 ∧ ds[s.h + j]? = some d
theorem once_new (n : Nat) (p : Int) : OnceP ⟨n, p, 0, []⟩ [] := ⟨rfl, fun j x d h => by simp at h⟩
theorem once_refs {s : RSt} {ds : List Bool} (h : OnceP s ds) {m : Nat} (hm : m ≤ s.L.length) : upto s.h ++ s.refs.take m = upto (s.h + m) := by
  apply List.ext_getElem?
  intro i
  by_cases h1 : i < s.h
  · rw [List.getElem?_append_left (by rw [upto_len]; exact h1), upto_at h1, upto_at (by omega)]
  · rw [List.getElem?_append_right (by rw [upto_len]; omega), upto_len]
    by_cases h2 : i < s.h + m
    · rw [upto_at h2]
      obtain ⟨⟨x, d⟩, hp⟩ : ∃ p, s.L[i - s.h]? = some p := ⟨_, List.getElem?_eq_getElem (by omega)⟩
      have hx := (h.pl _ x d hp).1
      rw [List.getElem?_take, if_pos (by omega)]
      simp only [RSt.refs, List.getElem?_map, hp, Option.map_some]
      rw [hx]
      congr 1
      omega
    · rw [List.getElem?_eq_none (by simp [RSt.refs]; omega), List.getElem?_eq_none (by rw [upto_len]; omega)]
theorem once_all {s : RSt} {ds : List Bool} (h : OnceP s ds) : upto s.h ++ s.refs = upto s.t := by
  have := once_refs h (Nat.le_refl _)
  rwa [List.take_of_length_le (by simp [RSt.refs])] at this
theorem once_trim {s : RSt} {ds : List Bool} (h : OnceP s ds) (x : Int) :
    OnceP (s.trim x).2 ds ∧ upto s.h ++ (s.trim x).1.1 = upto (s.trim x).2.h ∧ s.h + (s.trim x).1.1.length = (s.trim x).2.h ∧ (s.trim x).2.t = s.t := by
  unfold RSt.trim
  by_cases h1 : x < 0 ∨ (s.t : Int) < x
  · rw [if_pos h1]; exact ⟨h, by simp, by simp, rfl⟩
  rw [if_neg h1]
  by_cases h2 : (s.ready s.h : Int) < x
  · rw [if_pos h2]; exact ⟨h, by simp, by simp, rfl⟩
  rw [if_neg h2]
  obtain ⟨m, hm⟩ : ∃ m, (x - s.h).toNat = m := ⟨_, rfl⟩
  rw [hm]
  have hml : m ≤ s.L.length := by unfold RSt.t at h1; omega
  refine ⟨⟨by rw [h.len]; simp [RSt.t]; omega, fun j y d hj => ?_⟩, once_refs h hml, by simp [RSt.refs]; omega, by simp [RSt.t]; omega⟩
  simp only [List.getElem?_drop] at hj
  obtain ⟨e1, e2⟩ := h.pl _ y d hj
  dsimp only
  exact ⟨by rw [e1]; omega, by rw [Nat.add_assoc]; exact e2⟩
theorem once_publish {s : RSt} {ds : List Bool} (h : OnceP s ds) (x : Int) :
    ((s.publish x).1 ≠ 0 ∧ (s.publish x).2 = s) ∨ ((s.publish x).1 = 0 ∧ ∃ k : Nat, x = k ∧ k < s.t ∧ OnceP (s.publish x).2 (ds.set k true) ∧ (s.publish x).2.t = s.t ∧ (s.publish x).2.h = s.h) := by
  by_cases hz : s.findE x = 0
  · obtain ⟨k, rfl, h1, h2⟩ := RSt.find_zero hz
    obtain ⟨j, hj⟩ : ∃ j, k - s.h = j := ⟨_, rfl⟩
    have hjl : j < s.L.length := by unfold RSt.t at h2; omega
    obtain ⟨⟨y, d⟩, hp⟩ : ∃ p, s.L[j]? = some p := ⟨_, List.getElem?_eq_getElem hjl⟩
    have hg : s.publish k = if d then (6, s) else (0, { s with L := s.L.set j (y, true) }) := by
      unfold RSt.publish
      rw [if_neg (by simp [hz]), show ((k : Int) - s.h).toNat = j by omega, hp]
    rw [hg]
    cases d
    · refine .inr ⟨rfl, k, rfl, h2, ⟨by simp [RSt.t, h.len], fun i z e hi => ?_⟩, by simp [RSt.t], rfl⟩
      simp only [Bool.false_eq_true, if_false] at hi ⊢
      rw [List.getElem?_set] at hi
      rw [List.getElem?_set]
      by_cases hij : j = i
      · subst hij
        rw [if_pos rfl, if_pos hjl] at hi
        cases hi
        rw [if_pos (by omega), if_pos (by rw [h.len]; exact h2)]
        exact ⟨(h.pl _ _ _ hp).1, rfl⟩
      · rw [if_neg hij] at hi
        rw [if_neg (by omega)]
        exact h.pl _ _ _ hi
    · exact .inl ⟨by simp, rfl⟩
  · have hg : s.publish x = (s.findE x, s) := by unfold RSt.publish; rw [if_pos hz]
    rw [hg]
    exact .inl ⟨hz, rfl⟩
theorem once_snoc {s : RSt} {ds : List Bool} (h : OnceP s ds) : OnceP { s with L := s.L ++ [((s.t : Int) + 1, false)] } (ds ++ [false]) :=
  ⟨by simp [RSt.t, h.len]; omega, fun j x d hj => by
    have hlen := h.len
    by_cases h1 : j < s.L.length
    · simp only [List.getElem?_append_left h1] at hj
      obtain ⟨e1, e2⟩ := h.pl j x d hj
      refine ⟨e1, ?_⟩
      dsimp only
      rw [List.getElem?_append_left (by unfold RSt.t at hlen; omega)]
      exact e2
    · have h2 : j = s.L.length := by
        have := (List.getElem?_eq_some_iff.1 hj).1
        simp at this
        omega
      subst h2
      simp at hj
      obtain ⟨rfl, rfl⟩ := hj
      refine ⟨by dsimp only; unfold RSt.t; omega, ?_⟩
      dsimp only
      have e : s.h + s.L.length = ds.length := by rw [hlen]; rfl
      rw [e]
      simp⟩
theorem once_tail {s : RSt} {ds : List Bool} {p : Int × Bool} {L : List (Int × Bool)} (h : OnceP s ds) (hL : s.L = p :: L) : OnceP { s with h := s.h + 1, L := L } ds ∧ p.1 = (s.h : Int) + 1 := by
  refine ⟨⟨by rw [h.len]; simp [RSt.t, hL]; omega, fun j x d hj => ?_⟩, ?_⟩
  · obtain ⟨e1, e2⟩ := h.pl (j + 1) x d (by rw [hL]; exact hj)
    dsimp only
    exact ⟨by rw [e1]; omega, by rw [Nat.add_assoc, Nat.add_comm 1 j]; exact e2⟩
  · have := (h.pl 0 p.1 p.2 (by rw [hL]; rfl)).1
    simpa using this
theorem once_claim {s : RSt} {ds : List Bool} (h : OnceP s ds) :
    ((s.claim ((s.t : Int) + 1)).1.2.2 ≠ 0 ∧ (s.claim ((s.t : Int) + 1)).1.2.1 = 0 ∧ (s.claim ((s.t : Int) + 1)).2 = s) ∨
    ((s.claim ((s.t : Int) + 1)).1.2.2 = 0 ∧ OnceP (s.claim ((s.t : Int) + 1)).2 (ds ++ [false]) ∧ (s.claim ((s.t : Int) + 1)).2.t = s.t + 1 ∧
      (((s.claim ((s.t : Int) + 1)).1.2.1 = 0 ∧ (s.claim ((s.t : Int) + 1)).2.h = s.h) ∨ ((s.claim ((s.t : Int) + 1)).1.2.1 = (s.h : Int) + 1 ∧ (s.claim ((s.t : Int) + 1)).2.h = s.h + 1))) := by
  unfold RSt.claim
  rw [if_neg (by omega : ¬ (s.t : Int) + 1 < 1)]
  by_cases h2 : 1099511627776 ≤ s.h + s.L.length
  · rw [if_pos h2]; exact .inl ⟨by simp, rfl, rfl⟩
  rw [if_neg h2]
  by_cases h3 : s.L.length = s.n
  · rw [if_pos h3]
    cases hL : s.L with
    | nil => exact .inl ⟨by simp, rfl, rfl⟩
    | cons p L =>
      simp only
      by_cases hp : s.pol = 0 ∨ p.2 = false
      · rw [if_pos hp]; exact .inl ⟨by simp, rfl, rfl⟩
      · rw [if_neg hp]
        obtain ⟨ht, hp1⟩ := once_tail h hL
        have hs := once_snoc ht
        have et : ({ s with h := s.h + 1, L := L } : RSt).t = s.t := by simp [RSt.t, hL]; omega
        rw [et] at hs
        refine .inr ⟨rfl, hs, ?_, .inr ⟨hp1, rfl⟩⟩
        simp [RSt.t, hL]; omega
  · rw [if_neg h3]
    exact .inr ⟨rfl, once_snoc h, by simp [RSt.t]; omega, .inl ⟨rfl, rfl⟩⟩
theorem once_get {s : RSt} {ds : List Bool} (h : OnceP s ds) {k : Nat} (h1 : s.h ≤ k) (h2 : k < s.t) : ∃ d, ds[k]? = some d ∧ s.get k = if d then ((k : Int) + 1, 0) else (0, 8) := by
  have hjl : k - s.h < s.L.length := by unfold RSt.t at h2; omega
  obtain ⟨⟨x, d⟩, hp⟩ : ∃ p, s.L[k - s.h]? = some p := ⟨_, List.getElem?_eq_getElem hjl⟩
  obtain ⟨e1, e2⟩ := h.pl _ x d hp
  rw [show s.h + (k - s.h) = k by omega] at e2
  refine ⟨d, e2, ?_⟩
  have hz : s.findE k = 0 := by unfold RSt.findE; rw [if_neg (by omega), if_neg (by omega), if_neg (by omega)]
  unfold RSt.get
  rw [if_neg (by simp [hz]), show ((k : Int) - s.h).toNat = k - s.h by omega, hp]
  cases d
  · rfl
  · simp only [if_true]; rw [e1]; congr 1; omega
/-- A row of bools. -/
def bools (l : List Bool) : List Value := l.map Value.bool
theorem bools_snoc (l : List Bool) (x : Bool) : bools (l ++ [x]) = bools l ++ [.bool x] := by simp [bools]
theorem bools_len (l : List Bool) : (bools l).length = l.length := by simp [bools]
theorem bools_set (l : List Bool) (n : Nat) (x : Bool) : (bools l).set n (.bool x) = bools (l.set n x) := by simp [bools, List.map_set]
theorem bools_get {l : List Bool} {j : Nat} {x : Bool} (h : l[j]? = some x) : (bools l)[j]? = some (.bool x) := by simp [bools, h]
end Go.Proofs.Ytfackochjlccpaa
