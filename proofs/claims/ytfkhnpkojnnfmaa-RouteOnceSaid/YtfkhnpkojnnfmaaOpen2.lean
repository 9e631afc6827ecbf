/- Opening slices of slices that come in. No program in sight. -/
import Derived.Test.YtfkhnpkojnnfmaaOpen
namespace Go.Proofs.Ytfkhnpkojnnfmaa
open Go Go.ChangeShapes Go.WideShapes Go.RowKit
set_option linter.unusedVariables false
/-- A slice that lies in memory that came in: nil, or an array's part; its elements, each read. -/
theorem opened_slice0 {H : Type} {enc : TypeId × Value → H} {P : Program} {W : World} {base : Nat} {spare : Nat → Bool} {held : Bool} {t e : TypeId} {fuel : Nat} {vs : List Value} {r : DataW H × List MemPlace}
    (hu : P.underlying t = some (.slice e)) {sz : Nat} (hc : P.cellsOf e = sz) (hsz0 : 0 < sz) (hf : DataW.trod enc P W base spare held fuel t vs = some r) :
    ∃ a len cap, vs = [.slice a len cap] ∧ len ≤ cap ∧ cap ≤ maxLen ∧ (0 < len → ∃ g o, a = some ⟨g, o, none⟩ ∧
      ∀ i, i < len → ∃ cs n el, cs.length = sz ∧ (∀ x, x < sz → W.cell? ⟨g, o + i * sz + x, none⟩ = cs[x]?) ∧ DataW.trod enc P W base spare held n e cs = some el) := by
  obtain ⟨d, ps⟩ := r
  rcases DataW.trod_slice hu hf with ⟨hcs, _⟩ | ⟨ad, l, c, elems, rest, n, _, hcs, hx, hb, hl, hm, hlen, hel, _, _⟩
  · exact ⟨none, 0, 0, hcs, Nat.le_refl _, Nat.zero_le _, fun h => absurd h (by simp)⟩
  · have h4 : ∀ i, i < l → ∃ cs n el, cs.length = sz ∧ (∀ x, x < sz → W.cell? (ad.add (i * sz + x)) = cs[x]?) ∧ DataW.trod enc P W base spare held n e cs = some el := fun i hi => by
      have h1 := hel i hi
      rw [hc] at h1
      rw [List.getElem?_eq_getElem (show i < elems.length by omega)] at h1
      obtain ⟨cs, hcs, hel2⟩ := Option.bind_eq_some_iff.1 h1
      obtain ⟨_, hl2, hcell⟩ := World.cells?_some hcs
      exact ⟨cs, n, _, hl2, fun o ho => by rw [← Addr.add_add]; exact hcell o ho, hel2⟩
    refine ⟨some ad, l, c, hcs, hl, hm, fun hpos => ?_⟩
    obtain ⟨cs, n', el, hl2, hcell, _⟩ := h4 0 hpos
    have h0 := hcell 0 hsz0
    rw [Nat.zero_mul, List.getElem?_eq_getElem (by omega)] at h0
    obtain ⟨g, o, sp⟩ := ad
    have hsp : sp = none := by
      cases sp with
      | none => rfl
      | some y =>
        simp only [Nat.add_zero, Addr.add, if_true, World.cell?] at h0
        split at h0
        · simp at h0
        · cases h0
    subst hsp
    refine ⟨g, o, rfl, fun i hi => ?_⟩
    obtain ⟨cs, n, el, h1, h2, h3⟩ := h4 i hi
    exact ⟨cs, n, el, h1, fun x hx => by rw [Nat.add_assoc, ← addr_add]; exact h2 x hx, h3⟩
/-- A slice of slices of ints that came in. -/
def InII (k : IntKind) (W : World) (A : Option Addr) (zss : List (List Int)) : Prop :=
  0 < zss.length → ∃ g o, A = some ⟨g, o, none⟩ ∧ ∀ (j : Nat) (zs : List Int), zss[j]? = some zs → ∃ B d, W.cell? ⟨g, o + j, none⟩ = some (.slice B zs.length d) ∧ zs.length ≤ d ∧ d ≤ maxLen ∧ InI k W B zs
theorem opened_intss {H : Type} {enc : TypeId × Value → H} {P : Program} {W : World} {base : Nat} {spare : Nat → Bool} {held : Bool} {t e f : TypeId} {ik : IntKind} {a : Option Addr} {len cap : Nat} {d : DataW H} {ps : List MemPlace} {ts : List TypeId} {ds : List (DataW H)}
    (hu : P.underlying t = some (.slice e)) (he : P.underlying e = some (.slice f)) (hef : P.underlying f = some (.int ik)) (hc : P.cellsOf e = 1 ∧ P.cellsOf f = 1) {B : Nat} (hB : P.bytesOf e = B) (hsz : (DataW.weightsEach P ts ds).all (· ≤ reachBytes) = true) {j : Nat} (ht : ts[j]? = some t) (hd : ds[j]? = some d)
    (h : DataW.Trod enc P W base spare held t (.slice a len cap) d ps) : ∃ zss : List (List Int), zss.length = len ∧ len ≤ cap ∧ cap ≤ maxLen ∧ len * B ≤ 140737488351232 ∧ InII ik W a zss := by
  obtain ⟨h1, h2, h3, h4⟩ := opened_slice hu hc.1 (by omega) hB hsz ht hd h
  by_cases h0 : 0 < len
  · obtain ⟨g, o, rfl, h5⟩ := h4 h0
    obtain ⟨zs, hl, hz⟩ := list_of (p := fun j (zs : List Int) => ∃ B d, W.cell? ⟨g, o + j, none⟩ = some (.slice B zs.length d) ∧ zs.length ≤ d ∧ d ≤ maxLen ∧ InI ik W B zs) len (fun i hi => by
      obtain ⟨cs, n, el, hl, hcell, htr⟩ := h5 i hi
      obtain ⟨a', len', cap', rfl, q1, q2, q3⟩ := opened_slice0 he hc.2 (by omega) htr
      have hcell := hcell 0 (by omega)
      simp only [Nat.mul_one, Nat.add_zero, List.getElem?_cons_zero] at hcell
      by_cases p0 : 0 < len'
      · obtain ⟨g', o', rfl, q4⟩ := q3 p0
        obtain ⟨zs, hl', hz'⟩ := list_of (p := fun j (z : Int) => W.cell? ⟨g', o' + j, none⟩ = some (.int ik z) ∧ (Lit.int ik z).wf = true) len' (fun i hi => by
          obtain ⟨cs, n, el, hl, hcell, htr⟩ := q4 i hi
          obtain ⟨z, rfl, _, hw⟩ := DataW.trod_int hef htr
          exact ⟨z, by simpa using hcell 0 (by omega), hw⟩)
        exact ⟨zs, _, cap', by rw [hl']; exact hcell, by omega, q2, fun _ => ⟨g', o', rfl, hz'⟩⟩
      · obtain rfl : len' = 0 := by omega
        exact ⟨[], a', cap', hcell, by simp, q2, fun h => absurd h (by simp)⟩)
    exact ⟨zs, hl, h2, h3, h1, fun _ => ⟨g, o, rfl, hz⟩⟩
  · exact ⟨[], by simp; omega, h2, h3, h1, fun h => absurd h (by simp)⟩
end Go.Proofs.Ytfkhnpkojnnfmaa
