/- Words for memory of the call's own: a list of pieces that lie apart, beside the old memory that nothing turned. Plain definitions and theorems; no program in sight. -/
import Derived.WalkKit
import Derived.WalkSpells
import Derived.WalkLawsBesides
import Derived.Deep.QuietTactic
import Derived.BigQuiet
import Derived.RegionTactic
import Derived.StillTailTactics
import Derived.Lib.Hide
namespace Go.Proofs.Ytfackochjlccpaa
open Go Go.RowKit

/-- A piece of memory: some blocks. -/
abbrev Hl := Nat → Option Obj
abbrev Asn := Hl → Prop
def Hl.In (h m : Hl) : Prop := ∀ i o, h i = some o → m i = some o
def hlOf (w : World) : Hl := fun i => w.heap[i]?

/-- The pieces lie in m, apart from each other and from u. -/
def SepH (m : Hl) : (Nat → Prop) → List Asn → Prop
  | _, [] => True
  | u, A :: Rs => ∃ h : Hl, A h ∧ h.In m ∧ (∀ i, u i → h i = none) ∧ SepH m (fun i => u i ∨ h i ≠ none) Rs

/-- Since W nothing that was there has turned; and the pieces Rs lie in w, all beyond W's memory. -/
structure Inv (W w : World) (Rs : List Asn) : Prop where
  below : Below W.heap.size W w
  sep : SepH (hlOf w) (fun i => i < W.heap.size) Rs

theorem SepH.antimono {m : Hl} : ∀ {Rs : List Asn} {u v : Nat → Prop}, SepH m u Rs → (∀ i, v i → u i) → SepH m v Rs
  | [], _, _, _, _ => trivial
  | _ :: _, _, _, ⟨h, ha, hi, hd, hs⟩, huv => ⟨h, ha, hi, fun i hv => hd i (huv i hv), SepH.antimono hs (fun i hi => hi.elim (fun x => .inl (huv i x)) .inr)⟩

/-- The memory may change where no piece lies. -/
theorem SepH.world {m m' : Hl} : ∀ {Rs : List Asn} {u : Nat → Prop}, SepH m u Rs → (∀ i o, ¬ u i → m i = some o → m' i = some o) → SepH m' u Rs
  | [], _, _, _ => trivial
  | _ :: _, u, ⟨h, ha, hi, hd, hs⟩, hw =>
    ⟨h, ha, fun i o ho => hw i o (fun hu => by rw [hd i hu] at ho; cases ho) (hi i o ho), hd, SepH.world hs (fun i o hn ho => hw i o (fun hu => hn (.inl hu)) ho)⟩

/-- More may be kept away from where nothing lies. -/
theorem SepH.enlarge {m m' : Hl} : ∀ {Rs : List Asn} {u v : Nat → Prop}, SepH m u Rs → (∀ i, v i → u i ∨ m i = none) → (∀ i o, m i = some o → ¬ u i → m' i = some o) → SepH m' v Rs
  | [], _, _, _, _, _ => trivial
  | _ :: _, u, v, ⟨h, ha, hi, hd, hs⟩, hv, hm =>
    ⟨h, ha, fun i o ho => hm i o (hi i o ho) (fun hu => by rw [hd i hu] at ho; cases ho), fun i hvi => by
      rcases hv i hvi with hu | hn
      · exact hd i hu
      · cases hh : h i with
        | none => rfl
        | some o => (rw [hi i o hh] at hn; exact absurd hn (by simp)),
      SepH.enlarge hs (fun i hvi => by
        rcases hvi with hvi | hvi
        · rcases hv i hvi with hu | hn
          · exact .inl (.inl hu)
          · exact .inr hn
        · exact .inl (.inr hvi)) (fun i o ho hn => hm i o ho (fun hu => hn (.inl hu)))⟩

theorem SepH.swap {m : Hl} {u : Nat → Prop} {A B : Asn} {Rs : List Asn} : SepH m u (A :: B :: Rs) → SepH m u (B :: A :: Rs)
  | ⟨h, ha, hi, hd, h', ha', hi', hd', hs⟩ =>
    ⟨h', ha', hi', fun i hu => hd' i (.inl hu), h, ha, hi, fun i hu => by
      rcases hu with hu | hu
      · exact hd i hu
      · cases hh : h i with
        | none => rfl
        | some o => exact absurd (hd' i (.inr (by simp [hh]))) hu, hs.antimono (fun i hu => by
      rcases hu with (hu | hu) | hu
      · exact .inl (.inl hu)
      · exact .inr hu
      · exact .inl (.inr hu))⟩

theorem SepH.cons {m : Hl} {u : Nat → Prop} {A : Asn} {Rs Rs' : List Asn} (hr : ∀ u, SepH m u Rs → SepH m u Rs') : SepH m u (A :: Rs) → SepH m u (A :: Rs')
  | ⟨h, ha, hi, hd, hs⟩ => ⟨h, ha, hi, hd, hr _ hs⟩

theorem SepH.pull {m : Hl} {A : Asn} {Rs : List Asn} : ∀ (L : List Asn) {u : Nat → Prop}, SepH m u (L ++ A :: Rs) → SepH m u (A :: (L ++ Rs))
  | [], _, h => h
  | _ :: L, _, h => SepH.swap (SepH.cons (fun _ k => SepH.pull L k) h)

theorem SepH.push {m : Hl} {A : Asn} {Rs : List Asn} : ∀ (L : List Asn) {u : Nat → Prop}, SepH m u (A :: (L ++ Rs)) → SepH m u (L ++ A :: Rs)
  | [], _, h => h
  | _ :: L, _, h => SepH.cons (fun _ k => SepH.push L k) (SepH.swap h)

/-- A piece that is made of pieces. -/
def Lst (L : List Asn) : Asn := fun h => SepH h (fun _ => False) L

theorem SepH.split {m h : Hl} (hm : h.In m) {Rs : List Asn} : ∀ {L : List Asn} {u v : Nat → Prop}, SepH h v L → (∀ i, u i → v i ∨ h i = none) → SepH m (fun i => u i ∨ h i ≠ none) Rs → SepH m u (L ++ Rs)
  | [], _, _, _, _, hr => hr.antimono (fun _ x => .inl x)
  | _ :: _, u, v, ⟨k, ka, ki, kd, ks⟩, huv, hr =>
    ⟨k, ka, fun i o ho => hm i o (ki i o ho), fun i hu => by
      rcases huv i hu with hv | hn
      · exact kd i hv
      · cases hk : k i with
        | none => rfl
        | some o => (rw [ki i o hk] at hn; exact absurd hn (by simp)),
      SepH.split hm ks (fun i hu => by
        rcases hu with hu | hu
        · rcases huv i hu with hv | hn
          · exact .inl (.inl hv)
          · exact .inr hn
        · exact .inl (.inr hu)) (hr.antimono (fun i hu => by
        rcases hu with (hu | hu) | hu
        · exact .inl hu
        · cases hk : k i with
          | none => exact absurd hk hu
          | some o => exact .inr (by rw [ki i o hk]; simp)
        · exact .inr hu))⟩

theorem SepH.joined {m : Hl} {Rs : List Asn} : ∀ {L : List Asn} {u : Nat → Prop}, SepH m u (L ++ Rs) → SepH m u (Lst L :: Rs)
  | [], u, h => by
    refine ⟨fun _ => none, trivial, ?_, ?_, h.antimono ?_⟩
    · intro i o ho; exact absurd ho (by simp)
    · intro _ _; rfl
    · rintro i (hu | hu)
      · exact hu
      · exact absurd rfl hu
  | A :: L, u, ⟨k, ka, ki, kd, ks⟩ => by
    obtain ⟨h, hL, hi, hd, hs⟩ := SepH.joined (L := L) ks
    refine ⟨fun i => (k i).or (h i), ⟨k, ka, fun i o ho => by simp [ho], fun _ hf => hf.elim, ?_⟩, fun i o ho => ?_, fun i hu => ?_, hs.antimono fun i hu => ?_⟩
    · refine SepH.enlarge hL (fun i hu => ?_) (fun i o ho _ => ?_)
      · rcases hu with hu | hu
        · exact hu.elim
        · exact .inr (hd i (.inr hu))
      · show (k i).or (h i) = some o
        cases hk : k i with
        | none => simp [ho]
        | some o' => have := hd i (.inr (by simp [hk])); rw [this] at ho; cases ho
    · cases hk : k i with
      | none => simp only [hk, Option.none_or] at ho; exact hi i o ho
      | some x =>
        simp only [hk, Option.some_or] at ho
        cases ho
        exact ki i _ hk
    · show (k i).or (h i) = none
      rw [kd i hu, hd i (.inl hu)]; rfl
    · rcases hu with hu | hu
      · exact .inl (.inl hu)
      · cases hk : k i with
        | none => simp only [hk, Option.none_or] at hu; exact .inr hu
        | some o => exact .inl (.inr (by simp [hk]))

/-- No memory: a fact. -/
def PureA (p : Prop) : Asn := fun _ => p
def FalseA : Asn := fun _ => False
/-- One block. -/
def Blk (b : Nat) (o : Obj) : Asn := fun h => h b = some o

namespace Inv
variable {W w w' : World} {A B C D E F G H : Asn} {Rs Ns : List Asn}

theorem refl (W : World) : Inv W W [] := ⟨Below.refl _ _, trivial⟩
theorem size (h : Inv W w Rs) : W.heap.size ≤ w.heap.size := h.below.size
theorem app (L : List Asn) (h : Inv W w (L ++ A :: Rs)) : Inv W w (A :: (L ++ Rs)) := ⟨h.below, h.sep.pull L⟩
theorem unapp (L : List Asn) (h : Inv W w (A :: (L ++ Rs))) : Inv W w (L ++ A :: Rs) := ⟨h.below, h.sep.push L⟩
theorem pull1 (h : Inv W w (B :: A :: Rs)) : Inv W w (A :: B :: Rs) := app [B] h
theorem pull2 (h : Inv W w (B :: C :: A :: Rs)) : Inv W w (A :: B :: C :: Rs) := app [B, C] h
theorem pull3 (h : Inv W w (B :: C :: D :: A :: Rs)) : Inv W w (A :: B :: C :: D :: Rs) := app [B, C, D] h
theorem pull4 (h : Inv W w (B :: C :: D :: E :: A :: Rs)) : Inv W w (A :: B :: C :: D :: E :: Rs) := app [B, C, D, E] h
theorem pull5 (h : Inv W w (B :: C :: D :: E :: F :: A :: Rs)) : Inv W w (A :: B :: C :: D :: E :: F :: Rs) := app [B, C, D, E, F] h
theorem pull6 (h : Inv W w (B :: C :: D :: E :: F :: G :: A :: Rs)) : Inv W w (A :: B :: C :: D :: E :: F :: G :: Rs) := app [B, C, D, E, F, G] h
theorem push1 (h : Inv W w (A :: B :: Rs)) : Inv W w (B :: A :: Rs) := pull1 h
theorem push2 (h : Inv W w (A :: B :: C :: Rs)) : Inv W w (B :: C :: A :: Rs) := unapp [B, C] h
theorem push3 (h : Inv W w (A :: B :: C :: D :: Rs)) : Inv W w (B :: C :: D :: A :: Rs) := unapp [B, C, D] h
theorem push4 (h : Inv W w (A :: B :: C :: D :: E :: Rs)) : Inv W w (B :: C :: D :: E :: A :: Rs) := unapp [B, C, D, E] h
theorem push5 (h : Inv W w (A :: B :: C :: D :: E :: F :: Rs)) : Inv W w (B :: C :: D :: E :: F :: A :: Rs) := unapp [B, C, D, E, F] h
theorem drop (h : Inv W w (A :: Rs)) : Inv W w Rs := ⟨h.below, by obtain ⟨_, _, _, _, hs⟩ := h.sep; exact hs.antimono (fun i hi => .inl hi)⟩
theorem imp (h : Inv W w (A :: Rs)) (hab : ∀ h, A h → B h) : Inv W w (B :: Rs) := ⟨h.below, by obtain ⟨k, ha, r⟩ := h.sep; exact ⟨k, hab k ha, r⟩⟩
/-- A piece that wants no block. -/
theorem emp (h : Inv W w Rs) (ha : A (fun _ => none)) : Inv W w (A :: Rs) := by
  refine ⟨h.below, fun _ => none, ha, ?_, ?_, h.sep.antimono ?_⟩
  · intro i o ho; exact absurd ho (by simp)
  · intro _ _; rfl
  · rintro i (hu | hu)
    · exact hu
    · exact absurd rfl hu
theorem nil (h : Inv W w Rs) : Inv W w [] := ⟨h.below, trivial⟩
theorem ex {α : Type} {F : α → Asn} (h : Inv W w ((fun h => ∃ x, F x h) :: Rs)) : ∃ x, Inv W w (F x :: Rs) := by
  obtain ⟨hb, k, ⟨x, ha⟩, r⟩ := h; exact ⟨x, hb, k, ha, r⟩
theorem ex_mk {α : Type} {F : α → Asn} (x : α) (h : Inv W w (F x :: Rs)) : Inv W w ((fun h => ∃ x, F x h) :: Rs) := h.imp fun _ ha => ⟨x, ha⟩
theorem pure {p : Prop} (h : Inv W w ((fun h => p ∧ A h) :: Rs)) : p ∧ Inv W w (A :: Rs) := by
  obtain ⟨hb, k, ⟨hp, ha⟩, r⟩ := h; exact ⟨hp, hb, k, ha, r⟩
theorem pure_mk {p : Prop} (hp : p) (h : Inv W w (A :: Rs)) : Inv W w ((fun h => p ∧ A h) :: Rs) := h.imp fun _ ha => ⟨hp, ha⟩
theorem split {L : List Asn} (h : Inv W w (Lst L :: Rs)) : Inv W w (L ++ Rs) := by
  obtain ⟨hb, k, ha, hi, hd, hs⟩ := h
  exact ⟨hb, SepH.split hi ha (fun i hu => .inr (hd i hu)) hs⟩
theorem joined {L : List Asn} (h : Inv W w (L ++ Rs)) : Inv W w (Lst L :: Rs) := ⟨h.below, SepH.joined h.sep⟩

/-- The world grows, and turns no old block: all pieces stay; what is new lies beside them. -/
theorem frame (h : Inv W w Rs) (hn : Inv w w' Ns) : Inv W w' (Ns ++ Rs) := by
  refine ⟨h.below.trans (hn.below.mono h.size), ?_⟩
  have key : ∀ (Ns : List Asn) (u v : Nat → Prop), SepH (hlOf w') v Ns → (∀ i, i < w.heap.size → v i) → (∀ i, u i → i < W.heap.size ∨ w.heap.size ≤ i) → (∀ i, u i → v i) → SepH (hlOf w') u (Ns ++ Rs) := by
    intro Ns
    induction Ns with
    | nil =>
      intro u v _ hv hu _
      refine SepH.enlarge h.sep (fun i hi => ?_) (fun i o ho _ => ?_)
      · rcases hu i hi with h1 | h1
        · exact .inl h1
        · exact .inr (Array.getElem?_eq_none h1)
      · show w'.heap[i]? = some o
        have ho' : w.heap[i]? = some o := ho
        rw [hn.below.block i (Array.getElem?_eq_some_iff.1 ho').1]; exact ho'
    | cons N Ns ih =>
      rintro u v ⟨k, ka, ki, kd, ks⟩ hv hu huv
      refine ⟨k, ka, ki, fun i hi => kd i (huv i hi), ih _ _ ks (fun i hi => .inl (hv i hi)) (fun i hi => ?_) (fun i hi => hi.elim (fun x => .inl (huv i x)) .inr)⟩
      rcases hi with hi | hi
      · exact hu i hi
      · refine .inr (Nat.le_of_not_lt fun hlt => hi (kd i (hv i hlt)))
  exact key Ns _ _ hn.sep (fun i hi => hi) (fun i hi => .inl hi) (fun i hi => Nat.lt_of_lt_of_le hi h.size)
theorem grow (h : Inv W w Rs) (hb : Below w.heap.size w w') : Inv W w' Rs := h.frame (Ns := []) ⟨hb, trivial⟩

/-- One piece turns: what it was becomes B, in blocks of its own or new ones. -/
theorem turn {b : Nat} {o o' : Obj} (h : Inv W w (Blk b o :: Rs)) (hos : w'.os = w.os) (ht : w'.tape = w.tape) (ho : w'.output = w.output) (hz : w.heap.size ≤ w'.heap.size)
    (hb : w'.heap[b]? = some o') (hk : ∀ i, i < w.heap.size → i ≠ b → w'.heap[i]? = w.heap[i]?) : Inv W w' (Blk b o' :: Rs) := by
  obtain ⟨hbl, k, ka, ki, kd, ks⟩ := h
  have ka' : k b = some o := ka
  have hge : ¬ b < W.heap.size := fun hlt => by have := kd b hlt; rw [this] at ka'; cases ka'
  refine ⟨⟨hos.trans hbl.os, ht.trans hbl.tape, ho.trans hbl.output, Nat.le_trans hbl.size hz, fun i hi => (hk i (Nat.lt_of_lt_of_le hi hbl.size) (fun e => hge (e ▸ hi))).trans (hbl.block i hi)⟩, fun i => if i = b then some o' else none, by simp [Blk], ?_, ?_, ?_⟩
  · intro i x hx
    by_cases e : i = b
    · subst e
      simp only [if_true] at hx
      cases hx
      exact hb
    · simp [e] at hx
  · intro i hi
    have hi' : i < W.heap.size := hi
    have e : i ≠ b := fun e => by subst e; exact hge hi'
    simp [e]
  · refine (SepH.world ks (m' := hlOf w') ?_).antimono ?_
    · intro i x hn hx
      have hx' : w.heap[i]? = some x := hx
      show w'.heap[i]? = some x
      rw [hk i (Array.getElem?_eq_some_iff.1 hx').1 (fun e => hn (.inr (by rw [e, ka']; simp)))]
      exact hx'
    · intro i hi
      rcases hi with hi | hi
      · exact .inl hi
      · refine .inr ?_
        by_cases e : i = b
        · rw [e, ka']; simp
        · simp [e] at hi

theorem heap {b : Nat} {o : Obj} (h : Inv W w (Blk b o :: Rs)) : w.heap[b]? = some o := by
  obtain ⟨_, k, ka, ki, _, _⟩ := h; exact ki b o ka
theorem ge {b : Nat} {o : Obj} (h : Inv W w (Blk b o :: Rs)) : W.heap.size ≤ b := by
  obtain ⟨_, k, ka, _, kd, _⟩ := h
  have ka' : k b = some o := ka
  exact Nat.le_of_not_lt fun hlt => by rw [kd b hlt] at ka'; cases ka'
theorem lt {b : Nat} {o : Obj} (h : Inv W w (Blk b o :: Rs)) : b < w.heap.size := (Array.getElem?_eq_some_iff.1 h.heap).1
theorem ne {b c : Nat} {o o' : Obj} (h : Inv W w (Blk b o :: Blk c o' :: Rs)) : b ≠ c := by
  obtain ⟨_, k, ka, _, _, k', ka', _, kd', _⟩ := h
  intro e
  subst e
  have h1 : k b = some o := ka
  have h2 : k' b = some o' := ka'
  rw [kd' b (.inr (by rw [h1]; simp))] at h2
  cases h2
theorem alloc (h : Inv W w Rs) (o : Obj) : Inv W (w.alloc o) (Blk w.heap.size o :: Rs) := by
  refine h.frame (Ns := [Blk w.heap.size o]) ⟨(Below.refl _ w).alloc (Nat.le_refl _) _, fun i => if i = w.heap.size then some o else none, by simp [Blk], ?_, ?_, trivial⟩
  · intro i x hx
    by_cases e : i = w.heap.size
    · subst e
      simp only [if_true] at hx
      cases hx
      exact heap_alloc_new w o
    · simp [e] at hx
  · intro i hi
    have hi' : i < w.heap.size := hi
    have e : i ≠ w.heap.size := by omega
    simp [e]
theorem drew (h : Inv W w Rs) : Inv W w.drew Rs := h.grow (Below.refl _ w).drew
theorem drewN (h : Inv W w Rs) (n : Nat) : Inv W (w.drewN n) Rs := h.grow (by
  induction n with
  | zero => exact Below.refl _ _
  | succ n ih => rw [← World.drew_drewN]; exact ih.drew)
theorem setCell {b off : Nat} {cs : Array Value} {t : TypeId} {fz : Nat × Nat} (h : Inv W w (Blk b (.cells cs t fz) :: Rs)) (v : Value) :
    Inv W (w.setCell ⟨b, off, none⟩ v) (Blk b (.cells (cs.setIfInBounds off v) t fz) :: Rs) := by
  refine h.turn rfl rfl rfl (by simp [World.setCell]) ?_ (fun i _ hne => Below.heap_setCell _ _ _ _ hne)
  have := h.heap
  simp [World.setCell, Array.getElem?_modify, this]
theorem fact {p : Prop} (h : Inv W w (PureA p :: Rs)) : p := by obtain ⟨_, k, ha, _⟩ := h; exact ha
theorem fact_mk {p : Prop} (h : Inv W w Rs) (hp : p) : Inv W w (PureA p :: Rs) := h.emp hp
theorem falso (h : Inv W w (FalseA :: Rs)) : False := by obtain ⟨_, k, ha, _⟩ := h; exact ha
theorem set1 {b : Nat} {x : Value} {t : TypeId} {fz : Nat × Nat} (h : Inv W w (Blk b (.cells #[x] t fz) :: Rs)) (v : Value) : Inv W (w.setCell ⟨b, 0, none⟩ v) (Blk b (.cells #[v] t fz) :: Rs) := h.setCell (off := 0) v
theorem cell {b off : Nat} {cs : Array Value} {t : TypeId} {fz : Nat × Nat} {v : Value} (h : Inv W w (Blk b (.cells cs t fz) :: Rs)) (hv : cs[off]? = some v) : w.cell? ⟨b, off, none⟩ = some v := by
  simp [World.cell?, h.heap, hv]
theorem here {b off : Nat} {cs : Array Value} {t : TypeId} {fz : Nat × Nat} (h : Inv W w (Blk b (.cells cs t fz) :: Rs)) (ho : off < cs.size) : ∃ v, w.cell? ⟨b, off, none⟩ = some v :=
  ⟨_, h.cell (Array.getElem?_eq_getElem ho)⟩
theorem frozen {b off : Nat} {cs : Array Value} {t : TypeId} (h : Inv W w (Blk b (.cells cs t (0, 0)) :: Rs)) : w.frozen? ⟨b, off, none⟩ = false := by
  simp [World.frozen?, h.heap]
/-- What W held w holds. -/
theorem old_cell {a : Addr} {v : Value} (h : Inv W w Rs) (hc : W.cell? a = some v) : w.cell? a = some v := (h.below.cell (World.block_lt_of_cell? W a hc)).trans hc
end Inv
end Go.Proofs.Ytfackochjlccpaa
