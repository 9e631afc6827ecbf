/- Which keys go to each part: each to just one, in order. Plain facts. -/
import Derived.Test.YtfkhnpkojnnfmaaRouteB
namespace Go.Proofs.Ytfkhnpkojnnfmaa
open Go Go.RowKit
set_option linter.unusedVariables false
set_option linter.unusedSimpArgs false
/-- Each key is in the row of its part, the rows rise, and m stand in all. -/
structure Sorted (q : Nat) (ks : List (List Nat)) (R : List (List Int)) (m : Nat) : Prop where
  part : ∀ (b : Nat) x (i : Nat) k, R[b]? = some x → x[i]? = some k → ∃ j : Nat, k = j ∧ j < m ∧ ∃ key, ks[j]? = some key ∧ part q key = b
  up : ∀ (b : Nat) x, R[b]? = some x → x.Pairwise (· < ·)
  len : R.flatten.length = m
theorem flatten_set {R : List (List Int)} {b : Nat} {x : List Int} (h : R[b]? = some x) (k : Int) : (R.set b (x ++ [k])).flatten.length = R.flatten.length + 1 := by
  induction R generalizing b with
  | nil => simp at h
  | cons y R ih =>
    cases b with
    | zero => simp at h; subst h; simp; omega
    | succ b =>
      simp at h
      have := ih h
      simp only [List.set_cons_succ, List.flatten_cons, List.length_append] at this ⊢
      omega
theorem sorted_at (q : Nat) (hq : 1 ≤ q) (ks : List (List Nat)) : ∀ m, m ≤ ks.length → Sorted q ks (rtSort q ks m) m
  | 0, _ => by
    have e : rtSort q ks 0 = List.replicate q [] := rfl
    rw [e]
    refine ⟨fun b x i k hx hk => ?_, fun b x hx => ?_, by simp⟩
    · rw [List.getElem?_replicate] at hx
      split at hx
      · cases hx; simp at hk
      · cases hx
    · rw [List.getElem?_replicate] at hx
      split at hx
      · cases hx; exact .nil
      · cases hx
  | m + 1, hm => by
    have ih := sorted_at q hq ks m (by omega)
    obtain ⟨key, hkey⟩ : ∃ key, ks[m]? = some key := ⟨_, List.getElem?_eq_getElem (by omega)⟩
    obtain ⟨q0, q1⟩ := part_lt (p := (q : Int)) (by omega) key
    obtain ⟨b, hb⟩ : ∃ b : Nat, _root_.Go.Proofs.Ytfkhnpkojnnfmaa.part q key = b := ⟨(_root_.Go.Proofs.Ytfkhnpkojnnfmaa.part q key).toNat, by omega⟩
    obtain ⟨x, hx⟩ : ∃ x, (rtSort q ks m)[b]? = some x := ⟨_, List.getElem?_eq_getElem (by rw [rtSort_len]; omega)⟩
    rw [rtSort_at hkey (b := b) (x := x) (by omega) hx]
    have hbl := (List.getElem?_eq_some_iff.1 hx).1
    refine ⟨fun c y i k hy hk => ?_, fun c y hy => ?_, by rw [flatten_set hx, ih.len]⟩
    · rw [List.getElem?_set] at hy
      split at hy
      · rename_i e
        subst e
        try rw [if_pos hbl] at hy
        cases hy
        rw [List.getElem?_append] at hk
        split at hk
        · obtain ⟨j, e, hj, r⟩ := ih.part b x i k hx hk
          exact ⟨j, e, by omega, r⟩
        · have : i - x.length = 0 := by
            have := (List.getElem?_eq_some_iff.1 hk).1
            simp at this
            omega
          rw [this] at hk
          simp at hk
          exact ⟨m, hk.symm, by omega, key, hkey, hb⟩
      · obtain ⟨j, e, hj, r⟩ := ih.part c y i k hy hk
        exact ⟨j, e, by omega, r⟩
    · rw [List.getElem?_set] at hy
      split at hy
      · rename_i e
        subst e
        try rw [if_pos hbl] at hy
        cases hy
        rw [List.pairwise_append]
        refine ⟨ih.up b x hx, by simp, fun a ha c hc => ?_⟩
        simp at hc
        subst hc
        obtain ⟨i, hi⟩ := List.mem_iff_getElem?.1 ha
        obtain ⟨j, e, hj, _⟩ := ih.part b x i a hx hi
        omega
      · exact ih.up c y hy
/-- What was had when row b has been gone through up to i. -/
def hadTo (R : List (List Int)) (b : Nat) (x : List Int) (i : Nat) : List Int := (R.take b).flatten ++ x.take i
theorem hadTo_succ {R : List (List Int)} {b i : Nat} {x : List Int} {k : Int} (h : x[i]? = some k) : hadTo R b x (i + 1) = hadTo R b x i ++ [k] := by
  unfold hadTo
  rw [List.take_add_one, h, List.append_assoc]
  rfl
theorem hadTo_end {R : List (List Int)} {b : Nat} {x : List Int} (h : R[b]? = some x) : hadTo R b x x.length = (R.take (b + 1)).flatten := by
  unfold hadTo
  rw [List.take_of_length_le (Nat.le_refl _), List.take_add_one, h]
  simp
theorem Sorted.apart {q m : Nat} {ks : List (List Nat)} {R : List (List Int)} (s : Sorted q ks R m) {b i : Nat} {x : List Int} {k : Int} (hx : R[b]? = some x) (hk : x[i]? = some k) : k ∉ hadTo R b x i := by
  unfold hadTo
  rw [List.mem_append]
  rintro (h | h)
  · rw [List.mem_flatten] at h
    obtain ⟨y, hy, hky⟩ := h
    obtain ⟨c, hc⟩ := List.mem_iff_getElem?.1 hy
    rw [List.getElem?_take] at hc
    split at hc
    · rename_i hcb
      obtain ⟨i', hi'⟩ := List.mem_iff_getElem?.1 hky
      obtain ⟨j, e, _, key, h1, h2⟩ := s.part c y i' k hc hi'
      obtain ⟨j', e', _, key', h1', h2'⟩ := s.part b x i k hx hk
      obtain rfl : j = j' := by omega
      rw [h1] at h1'
      cases h1'
      omega
    · cases hc
  · obtain ⟨i', hi'⟩ := List.mem_iff_getElem?.1 h
    rw [List.getElem?_take] at hi'
    split at hi'
    · rename_i hlt
      have hp := s.up b x hx
      obtain ⟨a1, a2⟩ := List.getElem?_eq_some_iff.1 hi'
      obtain ⟨b1, b2⟩ := List.getElem?_eq_some_iff.1 hk
      have := List.pairwise_iff_getElem.1 hp i' i a1 b1 hlt
      omega
    · cases hi'
theorem Sorted.rises {q m : Nat} {ks : List (List Nat)} {R : List (List Int)} (s : Sorted q ks R m) {b i : Nat} {x : List Int} {k l : Int} (hx : R[b]? = some x) (hk : x[i]? = some k) (hl : x[i + 1]? = some l) : k < l := by
  obtain ⟨a1, a2⟩ := List.getElem?_eq_some_iff.1 hk
  obtain ⟨b1, b2⟩ := List.getElem?_eq_some_iff.1 hl
  have := List.pairwise_iff_getElem.1 (s.up b x hx) i (i + 1) a1 b1 (by omega)
  omega
theorem hadTo_len {q m : Nat} {ks : List (List Nat)} {R : List (List Int)} (s : Sorted q ks R m) {b i : Nat} {x : List Int} (hx : R[b]? = some x) : (hadTo R b x i).length ≤ m := by
  have h1 : (hadTo R b x i).length ≤ ((R.take (b + 1)).flatten).length := by
    rw [← hadTo_end hx]
    unfold hadTo
    simp
    omega
  have h2 : (R.take (b + 1)).flatten.length ≤ R.flatten.length := by
    conv => rhs; rw [← List.take_append_drop (b + 1) R, List.flatten_append, List.length_append]
    omega
  have := s.len
  omega
theorem take_len {q m : Nat} {ks : List (List Nat)} {R : List (List Int)} (s : Sorted q ks R m) (b : Nat) : ((R.take b).flatten).length ≤ m := by
  have h2 : (R.take b).flatten.length ≤ R.flatten.length := by
    conv => rhs; rw [← List.take_append_drop b R, List.flatten_append, List.length_append]
    omega
  have := s.len
  omega
end Go.Proofs.Ytfkhnpkojnnfmaa
