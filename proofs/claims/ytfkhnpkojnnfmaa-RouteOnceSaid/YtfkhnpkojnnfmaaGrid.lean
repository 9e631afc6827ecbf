/- A slice of slices of the call's own as a piece of memory. No program in sight. -/
import Derived.Test.YtfkhnpkojnnfmaaRd
namespace Go.Proofs.Ytfkhnpkojnnfmaa
open Go Go.RowKit
set_option linter.unusedVariables false
set_option linter.unusedSimpArgs false
/-- The outer cells: what is at each row's place. -/
def gridVals (ks : List (Option Addr × Nat)) (xss : List (List Value)) : List Value := List.zipWith (fun k x => Value.slice k.1 x.length k.2) ks xss
def gridRows (ei : TypeId) (ks : List (Option Addr × Nat)) (xss : List (List Value)) : List Asn := List.zipWith (fun k x => RowA ei 1 k.1 x.length k.2 x) ks xss
/-- The slice (A, n, c), of elements of type eo, owns rows of elements of type ei: it reads xss. -/
def GridA (eo ei : TypeId) (A : Option Addr) (n c : Nat) (xss : List (List Value)) : Asn := fun h =>
  ∃ ks : List (Option Addr × Nat), ks.length = xss.length ∧ Lst (RowA eo 1 A n c (gridVals ks xss) :: gridRows ei ks xss) h
section
variable {W w : World} {eo ei : TypeId} {n c : Nat} {A : Option Addr} {xss : List (List Value)} {Rs : List Asn}
theorem gridVals_len {ks : List (Option Addr × Nat)} {xss : List (List Value)} (h : ks.length = xss.length) : (gridVals ks xss).length = xss.length := by simp [gridVals, h]
theorem grid_open (h : Inv W w (GridA eo ei A n c xss :: Rs)) : ∃ ks, ks.length = xss.length ∧ Inv W w (RowA eo 1 A n c (gridVals ks xss) :: (gridRows ei ks xss ++ Rs)) := by
  obtain ⟨ks, h⟩ := h.ex
  obtain ⟨hl, h⟩ := h.pure
  exact ⟨ks, hl, h.split⟩
theorem grid_shut {ks : List (Option Addr × Nat)} (hl : ks.length = xss.length) (h : Inv W w (RowA eo 1 A n c (gridVals ks xss) :: (gridRows ei ks xss ++ Rs))) : Inv W w (GridA eo ei A n c xss :: Rs) :=
  Inv.ex_mk ks (Inv.pure_mk hl (Inv.joined (L := RowA eo 1 A n c (gridVals ks xss) :: gridRows ei ks xss) h))
theorem grid_len (h : Inv W w (GridA eo ei A n c xss :: Rs)) : xss.length = n ∧ n ≤ c ∧ c ≤ maxLen := by
  obtain ⟨ks, hl, h⟩ := grid_open h
  have := row_len h
  rw [gridVals_len hl] at this
  omega
theorem gridRows_split {ks : List (Option Addr × Nat)} {xss : List (List Value)} {i : Nat} {k : Option Addr × Nat} {x : List Value} (hk : ks[i]? = some k) (hx : xss[i]? = some x) :
    gridRows ei ks xss = gridRows ei (ks.take i) (xss.take i) ++ RowA ei 1 k.1 x.length k.2 x :: gridRows ei (ks.drop (i + 1)) (xss.drop (i + 1)) := by
  induction ks generalizing xss i with
  | nil => simp at hk
  | cons k' ks ih =>
    cases xss with
    | nil => simp at hx
    | cons x' xss =>
      cases i with
      | zero => simp at hk hx; subst hk; subst hx; simp [gridRows]
      | succ i =>
        simp only [List.getElem?_cons_succ] at hk hx
        have := ih hk hx
        simp only [gridRows, List.zipWith_cons_cons, List.take_succ_cons, List.drop_succ_cons, List.cons_append] at this ⊢
        rw [this]
theorem gridVals_at {ks : List (Option Addr × Nat)} {xss : List (List Value)} {i : Nat} {k : Option Addr × Nat} {x : List Value} (hk : ks[i]? = some k) (hx : xss[i]? = some x) :
    (gridVals ks xss)[i]? = some (.slice k.1 x.length k.2) := by
  simp [gridVals, List.getElem?_zipWith, hk, hx]
theorem gridVals_set {ks : List (Option Addr × Nat)} {xss : List (List Value)} (i : Nat) (k : Option Addr × Nat) (x : List Value) (hl : ks.length = xss.length) :
    gridVals (ks.set i k) (xss.set i x) = (gridVals ks xss).set i (.slice k.1 x.length k.2) := by
  apply List.ext_getElem?
  intro j
  simp only [gridVals, List.getElem?_zipWith, List.getElem?_set, List.length_zipWith]
  by_cases e : i = j
  · subst e
    by_cases hj : i < ks.length
    · have hj' : i < xss.length := by omega
      simp [hj, hj']; omega
    · have hj' : ¬ i < xss.length := by omega
      simp [hj, hj']; omega
  · simp [e]
theorem take_set_self {α : Type} (l : List α) (i : Nat) (x : α) : (l.set i x).take i = l.take i := by
  rw [List.take_set_of_le (Nat.le_refl i)]
theorem drop_set_self {α : Type} (l : List α) (i : Nat) (x : α) : (l.set i x).drop (i + 1) = l.drop (i + 1) := by
  rw [List.drop_set_of_lt (by omega)]
theorem Inv.dropL {W w : World} {Rs : List Asn} : ∀ (L : List Asn), Inv W w (L ++ Rs) → Inv W w Rs
  | [], h => h
  | _ :: L, h => Inv.dropL L h.drop
theorem Inv.pullL {W w : World} {A B : Asn} {Rs : List Asn} (L : List Asn) (h : Inv W w (A :: (L ++ B :: Rs))) : Inv W w (B :: A :: (L ++ Rs)) := Inv.app (L := A :: L) h
/-- A row of it: read, or put back as another one. -/
theorem grid_at (h : Inv W w (GridA eo ei A n c xss :: Rs)) {i : Nat} {x : List Value} (hx : xss[i]? = some x) :
    ∃ (B : Option Addr) (d : Nat) (vs : List Value) (L : List Asn), vs.length = n ∧ vs[i]? = some (.slice B x.length d) ∧ Inv W w (RowA ei 1 B x.length d x :: RowA eo 1 A n c vs :: (L ++ Rs)) ∧
      (∀ (W' w' : World) (Rs' : List Asn) (B' : Option Addr) (d' : Nat) (x' : List Value) , Inv W' w' (RowA ei 1 B' x'.length d' x' :: RowA eo 1 A n c (vs.set i (.slice B' x'.length d')) :: (L ++ Rs')) → Inv W' w' (GridA eo ei A n c (xss.set i x') :: Rs')) := by
  have hn := (grid_len h).1
  obtain ⟨ks, hl, h⟩ := grid_open h
  have hi := (List.getElem?_eq_some_iff.1 hx).1
  obtain ⟨k, hk⟩ : ∃ k, ks[i]? = some k := ⟨_, List.getElem?_eq_getElem (by omega)⟩
  have hs := gridRows_split (ei := ei) hk hx
  refine ⟨k.1, k.2, gridVals ks xss, (gridRows ei (ks.take i) (xss.take i) ++ gridRows ei (ks.drop (i + 1)) (xss.drop (i + 1))), by rw [gridVals_len hl, hn], gridVals_at hk hx, ?_, ?_⟩
  · rw [hs, List.append_assoc, List.cons_append] at h
    have h2 := Inv.app (L := RowA eo 1 A n c (gridVals ks xss) :: gridRows ei (ks.take i) (xss.take i)) (A := RowA ei 1 k.1 x.length k.2 x) (Rs := gridRows ei (ks.drop (i + 1)) (xss.drop (i + 1)) ++ Rs) h
    rw [List.append_assoc]
    exact h2
  · intro W' w' Rs' B' d' x' h'
    refine grid_shut (ks := ks.set i (B', d')) (by simp [hl]) ?_
    rw [gridVals_set i (B', d') x' hl, gridRows_split (k := (B', d')) (x := x') (i := i) (by simp [List.getElem?_set_self (show i < ks.length by omega)]) (by simp [List.getElem?_set_self hi]), take_set_self, take_set_self, drop_set_self, drop_set_self, List.append_assoc, List.cons_append]
    rw [List.append_assoc] at h'
    exact Inv.unapp (L := RowA eo 1 A n c ((gridVals ks xss).set i (.slice B' x'.length d')) :: gridRows ei (ks.take i) (xss.take i)) (A := RowA ei 1 B' x'.length d' x') (Rs := gridRows ei (ks.drop (i + 1)) (xss.drop (i + 1)) ++ Rs') h'
theorem set_same {α : Type} {l : List α} {i : Nat} {x : α} (h : l[i]? = some x) : l.set i x = l := by
  apply List.ext_getElem?
  intro j
  rw [List.getElem?_set]
  split
  · rename_i e; subst e; rw [h]; simp [(List.getElem?_eq_some_iff.1 h).1]
  · rfl
/-- What is read at a row's place, and the row. -/
theorem grid_read (h : Inv W w (GridA eo ei A n c xss :: Rs)) {i : Nat} {x : List Value} (hx : xss[i]? = some x) :
    ∃ (g : Nat) (B : Option Addr) (d : Nat), A = some ⟨g, 0, none⟩ ∧ w.cell? ⟨g, i, none⟩ = some (.slice B x.length d) ∧ Rd w 1 B x.length x ∧ x.length ≤ d ∧ d ≤ maxLen := by
  obtain ⟨B, d, vs, Rest, hl, hv, h2, _⟩ := grid_at h hx
  obtain ⟨g, hg, hc⟩ := row_cell h2.pull1 hv
  have := row_len h2
  exact ⟨g, B, d, hg, hc, row_rd h2 (by omega), this.2.1, this.2.2⟩
/-- Opened, to be appended to: a new row goes behind the others. -/
theorem grid_more (h : Inv W w (GridA eo ei A n c xss :: Rs)) : ∃ (vs : List Value) (L : List Asn), vs.length = n ∧ Inv W w (RowA eo 1 A n c vs :: (L ++ Rs)) ∧
    (∀ (W' w' : World) (Rs' : List Asn) (A' : Option Addr) (n' c' : Nat) (B' : Option Addr) (d' : Nat) (x' : List Value), Inv W' w' (RowA eo 1 A' n' c' (vs ++ [.slice B' x'.length d']) :: RowA ei 1 B' x'.length d' x' :: (L ++ Rs')) → Inv W' w' (GridA eo ei A' n' c' (xss ++ [x']) :: Rs')) := by
  have hn := (grid_len h).1
  obtain ⟨ks, hl, h⟩ := grid_open h
  refine ⟨gridVals ks xss, gridRows ei ks xss, by rw [gridVals_len hl, hn], h, ?_⟩
  intro W' w' Rs' A' n' c' B' d' x' h'
  refine grid_shut (ks := ks ++ [(B', d')]) (by simp [hl]) ?_
  have e1 : gridVals (ks ++ [(B', d')]) (xss ++ [x']) = gridVals ks xss ++ [.slice B' x'.length d'] := by
    unfold gridVals; rw [List.zipWith_append hl]; rfl
  have e2 : gridRows ei (ks ++ [(B', d')]) (xss ++ [x']) = gridRows ei ks xss ++ [RowA ei 1 B' x'.length d' x'] := by
    unfold gridRows; rw [List.zipWith_append hl]; rfl
  rw [e1, e2, List.append_assoc, List.singleton_append]
  exact Inv.unapp (L := RowA eo 1 A' n' c' (gridVals ks xss ++ [.slice B' x'.length d']) :: gridRows ei ks xss) (A := RowA ei 1 B' x'.length d' x') (Rs := Rs') h'.pull1
/-- Rows that are all nil. -/
theorem grid_nils (h : Inv W w (RowA eo 1 A n c (List.replicate n (.slice none 0 0)) :: Rs)) : Inv W w (GridA eo ei A n c (List.replicate n []) :: Rs) := by
  refine grid_shut (ks := List.replicate n (none, 0)) (by simp) ?_
  have e1 : gridVals (List.replicate n (none, 0)) (List.replicate n []) = List.replicate n (.slice none 0 0) := by simp [gridVals, List.zipWith_replicate]
  have e2 : gridRows ei (List.replicate n (none, 0)) (List.replicate n []) = List.replicate n (RowA ei 1 none 0 0 []) := by simp [gridRows, List.zipWith_replicate]
  rw [e1, e2]
  have key : ∀ (m : Nat) (L : List Asn), Inv W w L → Inv W w (List.replicate m (RowA ei 1 none 0 0 []) ++ L) := by
    intro m
    induction m with
    | zero => intro L h; exact h
    | succ m ih => intro L h; rw [List.replicate_succ, List.cons_append]; exact row_nil (ih L h) _ _
  have h2 := key n _ h
  exact h2.app
theorem grid_none (h : Inv W w Rs) (eo ei : TypeId) : Inv W w (GridA eo ei none 0 0 [] :: Rs) := by
  have := row_nil h eo 1
  exact grid_nils (n := 0) this
end
end Go.Proofs.Ytfkhnpkojnnfmaa
