/- Opening the slices that come in: what is read where. No program in sight. -/
import Derived.SizedLaws
import Derived.ChangeSlices
import Derived.ProofKit
import Derived.OpenShut
import Derived.DataElems
namespace Go.Proofs.Ytfackochjlccpaa
open Go Go.ChangeShapes Go.WideShapes Go.RowKit
set_option linter.unusedVariables false

theorem list_of {α : Type} {p : Nat → α → Prop} : ∀ (n : Nat), (∀ j, j < n → ∃ z, p j z) → ∃ zs : List α, zs.length = n ∧ ∀ (j : Nat) z, zs[j]? = some z → p j z
  | 0, _ => ⟨[], rfl, fun j z h => by simp at h⟩
  | n + 1, h => by
    obtain ⟨zs, hl, hz⟩ := list_of n (fun j hj => h j (by omega))
    obtain ⟨y, hy⟩ := h n (by omega)
    refine ⟨zs ++ [y], by simp [hl], fun j z hj => ?_⟩
    rw [List.getElem?_append] at hj
    split at hj
    · exact hz j z hj
    · rename_i hge
      have : j = n := by
        have := (List.getElem?_eq_some_iff.1 hj).1
        simp at this
        omega
      subst this
      simp [hl] at hj
      subst hj
      exact hy

theorem addr_add (g o j : Nat) : (⟨g, o, none⟩ : Addr).add j = ⟨g, o + j, none⟩ := by
  unfold Addr.add
  split
  · rename_i h; subst h; rfl
  · rfl

/-- What comes in as a slice: nil, or an array's part; its elements, each read. -/
theorem opened_slice {H : Type} {enc : TypeId × Value → H} {P : Program} {W : World} {base : Nat} {spare : Nat → Bool} {held : Bool} {t e : TypeId} {a : Option Addr} {len cap : Nat} {d : DataW H} {ps : List MemPlace} {ts : List TypeId} {ds : List (DataW H)} {j : Nat}
    (hu : P.underlying t = some (.slice e)) {sz : Nat} (hc : P.cellsOf e = sz) (hsz0 : 0 < sz) {B : Nat} (hB : P.bytesOf e = B) (hsz : (DataW.weightsEach P ts ds).all (· ≤ reachBytes) = true) (ht : ts[j]? = some t) (hd : ds[j]? = some d)
    (h : DataW.Trod enc P W base spare held t (.slice a len cap) d ps) :
    len * B ≤ 140737488351232 ∧ len ≤ cap ∧ cap ≤ maxLen ∧ (0 < len → ∃ g o, a = some ⟨g, o, none⟩ ∧
      ∀ i, i < len → ∃ cs n el, cs.length = sz ∧ (∀ x, x < sz → W.cell? ⟨g, o + i * sz + x, none⟩ = cs[x]?) ∧ DataW.trod enc P W base spare held n e cs = some el) := by
  obtain ⟨fuel, hf⟩ := h
  rcases DataW.trod_slice hu hf with ⟨hcs, _⟩ | ⟨ad, l, c, elems, rest, n, _, hcs, hx, hb, hl, hm, hlen, hel, _, _⟩
  · simp [Value.cells] at hcs
    obtain ⟨rfl, rfl, rfl⟩ := hcs
    exact ⟨by simp, Nat.le_refl _, Nat.zero_le _, fun h => absurd h (by simp)⟩
  · simp [Value.cells] at hcs
    obtain ⟨rfl, rfl, rfl⟩ := hcs
    obtain ⟨hx, _⟩ := Prod.mk.inj hx
    subst hx
    have z := sized_slice hsz ht hd hu
    rw [hB] at z
    simp only [List.length_map] at z
    have h4 : ∀ i, i < len → ∃ cs n el, cs.length = sz ∧ (∀ x, x < sz → W.cell? (ad.add (i * sz + x)) = cs[x]?) ∧ DataW.trod enc P W base spare held n e cs = some el := fun i hi => by
      have h1 := hel i hi
      rw [hc] at h1
      rw [List.getElem?_eq_getElem (show i < elems.length by omega)] at h1
      obtain ⟨cs, hcs, hel2⟩ := Option.bind_eq_some_iff.1 h1
      obtain ⟨_, hl2, hcell⟩ := World.cells?_some hcs
      exact ⟨cs, n, _, hl2, fun o ho => by rw [← Addr.add_add]; exact hcell o ho, hel2⟩
    refine ⟨Nat.le_trans (Nat.mul_le_mul_right _ (by omega)) z, hl, hm, fun hpos => ?_⟩
    obtain ⟨cs, n', el, hl2, hcell, _⟩ := h4 0 hpos
    have h0 := hcell 0 hsz0
    rw [Nat.zero_mul, List.getElem?_eq_getElem (by omega)] at h0
    obtain ⟨g, o, sp⟩ := ad
    have hsp : sp = none := by
      cases sp with
      | none => rfl
      | some y =>
        simp only [Nat.add_zero, Addr.add, if_true, World.cell?] at h0
        split at h0
        · simp at h0
        · cases h0
    subst hsp
    refine ⟨g, o, rfl, fun i hi => ?_⟩
    obtain ⟨cs, n, el, h1, h2, h3⟩ := h4 i hi
    exact ⟨cs, n, el, h1, fun x hx => by rw [Nat.add_assoc, ← addr_add]; exact h2 x hx, h3⟩

/-- A slice of ints that came in. -/
def InI (k : IntKind) (W : World) (A : Option Addr) (zs : List Int) : Prop :=
  0 < zs.length → ∃ g o, A = some ⟨g, o, none⟩ ∧ ∀ (j : Nat) (z : Int), zs[j]? = some z → W.cell? ⟨g, o + j, none⟩ = some (.int k z) ∧ (Lit.int k z).wf = true
theorem opened_ints {H : Type} {enc : TypeId × Value → H} {P : Program} {W : World} {base : Nat} {spare : Nat → Bool} {held : Bool} {t e : TypeId} {ik : IntKind} {a : Option Addr} {len cap : Nat} {d : DataW H} {ps : List MemPlace} {ts : List TypeId} {ds : List (DataW H)}
    (hu : P.underlying t = some (.slice e)) (he : P.underlying e = some (.int ik)) (hc : P.cellsOf e = 1) {B : Nat} (hB : P.bytesOf e = B) (hsz : (DataW.weightsEach P ts ds).all (· ≤ reachBytes) = true) {j : Nat} (ht : ts[j]? = some t) (hd : ds[j]? = some d)
    (h : DataW.Trod enc P W base spare held t (.slice a len cap) d ps) : ∃ zs : List Int, zs.length = len ∧ len ≤ cap ∧ cap ≤ maxLen ∧ len * B ≤ 140737488351232 ∧ InI ik W a zs := by
  obtain ⟨h1, h2, h3, h4⟩ := opened_slice hu hc (by omega) hB hsz ht hd h
  by_cases h0 : 0 < len
  · obtain ⟨g, o, rfl, h5⟩ := h4 h0
    obtain ⟨zs, hl, hz⟩ := list_of (p := fun j (z : Int) => W.cell? ⟨g, o + j, none⟩ = some (.int ik z) ∧ (Lit.int ik z).wf = true) len (fun i hi => by
      obtain ⟨cs, n, el, hl, hcell, htr⟩ := h5 i hi
      obtain ⟨z, rfl, _, hw⟩ := DataW.trod_int he htr
      exact ⟨z, by simpa using hcell 0 (by omega), hw⟩)
    exact ⟨zs, hl, h2, h3, h1, fun _ => ⟨g, o, rfl, hz⟩⟩
  · exact ⟨[], by simp; omega, h2, h3, h1, fun h => absurd h (by simp)⟩

/-- A slice of bools that came in. -/
def InB (W : World) (A : Option Addr) (zs : List Bool) : Prop := 0 < zs.length → ∃ g o, A = some ⟨g, o, none⟩ ∧ ∀ (j : Nat) (z : Bool), zs[j]? = some z → W.cell? ⟨g, o + j, none⟩ = some (.bool z)

/-- A slice of structs of two ints that came in. -/
def In2 (W : World) (A : Option Addr) (zs : List (Int × Int)) : Prop :=
  0 < zs.length → ∃ g o, A = some ⟨g, o, none⟩ ∧ ∀ (j : Nat) (z : Int × Int), zs[j]? = some z → (W.cell? ⟨g, o + j * 2, none⟩ = some (.int .i64 z.1) ∧ W.cell? ⟨g, o + j * 2 + 1, none⟩ = some (.int .i64 z.2)) ∧ (Lit.int .i64 z.1).wf = true ∧ (Lit.int .i64 z.2).wf = true
theorem opened_int2 {H : Type} {enc : TypeId × Value → H} {P : Program} {W : World} {base : Nat} {spare : Nat → Bool} {held : Bool} {t e f0 f1 : TypeId} {a : Option Addr} {len cap : Nat} {d : DataW H} {ps : List MemPlace} {ts : List TypeId} {ds : List (DataW H)}
    {n0 n1 g0 g1 p0 p1 : String} {e0 e1 : Bool} {b0 b1 : Nat}
    (hu : P.underlying t = some (.slice e)) (he : P.underlying e = some (.struct #[⟨n0, f0, 0, e0, g0, p0, b0⟩, ⟨n1, f1, 1, e1, g1, p1, b1⟩])) (hf0 : P.underlying f0 = some (.int .i64)) (hf1 : P.underlying f1 = some (.int .i64)) (hc : P.cellsOf e = 2 ∧ P.cellsOf f0 = 1 ∧ P.cellsOf f1 = 1) {B : Nat} (hB : P.bytesOf e = B) (hsz : (DataW.weightsEach P ts ds).all (· ≤ reachBytes) = true) {j : Nat} (ht : ts[j]? = some t) (hd : ds[j]? = some d)
    (h : DataW.Trod enc P W base spare held t (.slice a len cap) d ps) : ∃ zs : List (Int × Int), zs.length = len ∧ len ≤ cap ∧ cap ≤ maxLen ∧ len * B ≤ 140737488351232 ∧ In2 W a zs := by
  obtain ⟨h1, h2, h3, h4⟩ := opened_slice hu hc.1 (by omega) hB hsz ht hd h
  by_cases h0 : 0 < len
  · obtain ⟨g, o, rfl, h5⟩ := h4 h0
    obtain ⟨zs, hl, hz⟩ := list_of (p := fun j (z : Int × Int) => (W.cell? ⟨g, o + j * 2, none⟩ = some (.int .i64 z.1) ∧ W.cell? ⟨g, o + j * 2 + 1, none⟩ = some (.int .i64 z.2)) ∧ (Lit.int .i64 z.1).wf = true ∧ (Lit.int .i64 z.2).wf = true) len (fun i hi => by
      obtain ⟨cs, n, el, hl, hcell, htr⟩ := h5 i hi
      obtain ⟨xs, m, _, _, hlen, hxs, hfl⟩ := DataW.trod_struct he htr
      match cs, hl with
      | [c0, c1], _ =>
        have q0 := hfl 0 ⟨n0, f0, 0, e0, g0, p0, b0⟩ rfl
        have q1 := hfl 1 ⟨n1, f1, 1, e1, g1, p1, b1⟩ rfl
        dsimp only at q0 q1
        rw [hc.2.1] at q0
        rw [hc.2.2] at q1
        rw [List.getElem?_eq_getElem (show 0 < xs.length by rw [hxs]; simp)] at q0
        rw [List.getElem?_eq_getElem (show 1 < xs.length by rw [hxs]; simp)] at q1
        obtain ⟨y0, r0, _, w0⟩ := DataW.trod_int hf0 q0
        obtain ⟨y1, r1, _, w1⟩ := DataW.trod_int hf1 q1
        simp at r0 r1
        subst r0
        subst r1
        exact ⟨(y0, y1), ⟨by simpa using hcell 0 (by omega), by simpa using hcell 1 (by omega)⟩, w0, w1⟩)
    exact ⟨zs, hl, h2, h3, h1, fun _ => ⟨g, o, rfl, hz⟩⟩
  · exact ⟨[], by simp; omega, h2, h3, h1, fun h => absurd h (by simp)⟩
end Go.Proofs.Ytfackochjlccpaa
