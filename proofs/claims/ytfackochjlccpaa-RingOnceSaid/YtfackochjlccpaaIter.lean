/- A range over a function, said over pieces of memory: what an iterator promises, and the rule for the loop. No program in sight. -/
import Derived.Test.YtfackochjlccpaaSp
import Derived.RangeFuncNested
import Derived.RangeFuncBound
import Derived.RangeFuncCalls
import Derived.RangeFuncLeaves
import Derived.Shelf.Abstract
import Derived.Shelf.RegionOpen
import Derived.OwnWalkIn
import Derived.TacticsInMore
import Derived.LoopNIn
import Derived.LoopIn
import Derived.Sort.QuietIn
namespace Go.Proofs.Ytfackochjlccpaa
open Go Go.RowKit Go.Shelf
set_option linter.unusedVariables false

/-- The function g, given yield, hands over xs, one behind the other; It k is its own memory when k of them have come. -/
def Iter {α : Type} (P : Program) (gf : Nat) (lb : Array Value) (encs : α → Array Value) (xs : List α) (It : Nat → List Asn) : Prop :=
  ∀ (W : World) (l : Nat) (J Z : Nat → List Asn) (w : World),
    (∀ k x w1, xs[k]? = some x → Inv W w1 (It k ++ J k) → YieldAt Fence.wide 0 P l (encs x) w1 fun e w' =>
      (e = .returned (.bool true) ∧ Inv W w' (It k ++ J (k + 1))) ∨ (e = .returned (.bool false) ∧ Inv W w' (Z k))) →
    Inv W w (It 0 ++ J 0) →
    CallsIn Fence.wide 0 P gf (#[.func (.yield l) #[] #[]] ++ lb) w fun e w' => (∃ v, e = .returned v) ∧ (Inv W w' (It xs.length ++ J xs.length) ∨ ∃ k, k < xs.length ∧ Inv W w' (Z k))

/-- How a round may be left. -/
def roundI (W : World) (A : List Asn) (Z : Code → List Asn) : Exit → Act → World → Prop
  | .normal, _, w' => Inv W w' A
  | .ret, _, w' => Inv W w' (Z .ret)
  | .exit id, _, w' => Inv W w' (Z (.exit id))
  | .goto t, _, w' => Inv W w' (Z (.goto t))
  | .panic _, _, _ => False
  | .outgrown, _, _ => False

theorem Inv.putObj {W w : World} {l : Nat} {o : Obj} {Rs : List Asn} (h : Inv W w (Blk l o :: Rs)) (o' : Obj) : Inv W (w.putObj l o') (Blk l o' :: Rs) :=
  h.turn rfl rfl rfl (by simp) (World.putObj_heap_same h.lt) (fun i _ hne => World.putObj_heap_other hne)

theorem wp_range {α : Type} {P : Program} {g : Operand} {ps : Array Tmp} {assign body : Code} {Q : Exit → Act → World → Prop} {a : Act} {W w : World}
    {gf : Nat} {lb : Array Value} {encs : α → Array Value} {xs : List α} {It : Nat → List Asn}
    (hg : a.eval g = .func (.func gf) #[] lb) (eg : ∀ args w, (callFunc gf args).run P w = .ok (.enter gf args) w)
    (hit : Iter P gf lb encs xs It) (hps : ∀ x, (encs x).size = ps.size) (J : Nat → List Asn) (Z : Nat → Code → List Asn)
    (h0 : Inv W w (It 0 ++ J 0))
    (hround : ∀ l k x w1 (R : List Asn), xs[k]? = some x → Inv W w1 (It k ++ (J k ++ R)) →
      assign.wpIn (Fence.wide.inRound l) 0 P (Exit.then (fun a' w2 => ∃ Bs, Inv W w2 (Bs ++ (It k ++ (J k ++ R))) ∧
        ∀ w3 R', Inv W w3 (Bs ++ (It k ++ (J k ++ R'))) → body.wpIn (Fence.wide.inRound l) 0 P (roundI W (It k ++ (J (k + 1) ++ R')) (fun c => Z k c ++ R')) a' w3) (fun _ _ _ => False))
        { tmps := (ps.zip (encs x)).foldl (fun t (p, v) => t.setIfInBounds p v) a.tmps, defers := [] } w1)
    (hdone : ∀ D w2, Inv W w2 (Blk D (.deferred (some [])) :: (It xs.length ++ J xs.length)) → Q .normal { a with defers := { target := .collected D, args := #[] } :: a.defers } w2)
    (hstop : ∀ D c k w2, k < xs.length → Inv W w2 (Blk D (.deferred (some [])) :: Z k c) → c.wpIn Fence.wide 0 P Q { a with defers := { target := .collected D, args := #[] } :: a.defers } w2) :
    (Code.rangeFunc g ps assign body).wpIn Fence.wide 0 P Q a w := by
  refine wpIn_rangeFunc ?_
  intro fn hfn
  have hro : Fence.wide.round = none := rfl
  rw [hro]
  obtain ⟨rec, hrec⟩ : ∃ rec : LoopState → Option Code → Loop, rec = fun st pe => { state := st, pending := pe, fn, tmps := a.tmps, params := ps, assign, body, defers := w.heap.size } := ⟨_, rfl⟩
  have q1 : ∀ st pe, (rec st pe).state = st := by rw [hrec]; intros; rfl
  have h1 := (h0.alloc (.deferred (some []))).alloc (.loop (rec .ready none))
  rw [World.size_alloc] at h1
  generalize hL : w.heap.size + 1 = L at h1
  generalize hD : w.heap.size = D at h1 hL
  obtain ⟨W1, hW1⟩ : ∃ W1, (w.alloc (.deferred (some []))).alloc (.loop (rec .ready none)) = W1 := ⟨_, rfl⟩
  rw [hW1] at h1
  refine ⟨L, [{ target := .collected D, args := #[] }], W1, { target := .fn (.func gf) lb, args := #[.func (.yield L) #[] #[]] }, W1, gf, #[.func (.yield L) #[] #[]] ++ lb, W1, ?_, ?_, ?_, ?_, ?_, ?_⟩
  · rw [← hW1, run_enterLoop_outer, hrec, ← hL, ← hD]
  · simp only [resolve, hg]
    simp [go_sem]
  · intro f' hf'; trivial
  · simp [invoke, go_sem, eg]
  · intro h; cases h
  · have hit1 := hit W L (fun k => J k ++ [Blk L (.loop (rec .ready none)), Blk D (.deferred (some []))])
      (fun k => [fun h => ∃ c, Lst (Z k c ++ [Blk L (.loop (rec .done (some c))), Blk D (.deferred (some []))]) h])
      W1 ?_ ?_
    · refine CallsIn.mono hit1 ?_
      rintro e w2 ⟨⟨v, rfl⟩, (h | ⟨k, hk, h⟩)⟩
      · have h' : Inv W w2 ((It xs.length ++ J xs.length) ++ Blk L (.loop (rec .ready none)) :: [Blk D (.deferred (some []))]) := by
          rw [List.append_assoc]; exact h
        have h2 := h'.app
        have h3 := h2.putObj (.loop (rec .exhausted none))
        have hr : (Instr.endLoop L).run P w2 = .ok none (w2.putObj L (.loop (rec .exhausted none))) := by
          have := run_endLoop (P := P) h2.heap (by rw [q1]; simp)
          rw [hrec] at this ⊢; exact this
        have h4 := h3.drop.app (A := Blk D (.deferred (some []))) (L := It xs.length ++ J xs.length) (Rs := [])
        rw [List.append_nil] at h4
        exact ⟨none, _, hr, hdone D _ h4⟩
      · obtain ⟨c, h⟩ := h.ex
        have h1 := h.split
        rw [List.append_nil] at h1
        have h2 := h1.app (A := Blk L (.loop (rec .done (some c)))) (L := Z k c) (Rs := [Blk D (.deferred (some []))])
        have h3 := h2.putObj (.loop (rec .exhausted (some c)))
        have hr : (Instr.endLoop L).run P w2 = .ok (some c) (w2.putObj L (.loop (rec .exhausted (some c)))) := by
          have := run_endLoop (P := P) h2.heap (by rw [q1]; simp)
          rw [hrec] at this ⊢; exact this
        have h4 := h3.drop.app (A := Blk D (.deferred (some []))) (L := Z k c) (Rs := [])
        rw [List.append_nil] at h4
        exact ⟨some c, _, hr, hstop D c k _ hk h4⟩
    · intro k x w1 hx hI
      have hI' : Inv W w1 ((It k ++ J k) ++ Blk L (.loop (rec .ready none)) :: [Blk D (.deferred (some []))]) := by
        rw [List.append_assoc]; exact hI
      have hl := hI'.app.heap
      have hy := run_yield (P := P) (args := encs x) hl (by rw [hrec]; exact hps x)
      rw [show (rec .ready none).fn = fn by rw [hrec], show (rec .ready none).params = ps by rw [hrec], show (rec .ready none).tmps = a.tmps by rw [hrec], show (rec .ready none).assign = assign by rw [hrec], show (rec .ready none).body = body by rw [hrec]] at hy
      refine ⟨fn, _, assign, body, hy, roundIn_of_wpIn hfn (wpIn_mono (hround L k x w1 _ hx hI) ?_)⟩
      intro e a' w2 hp
      cases e with
      | normal =>
        obtain ⟨Bs, h2, hb⟩ := hp
        have h2' : Inv W w2 ((Bs ++ (It k ++ J k)) ++ Blk L (.loop (rec .ready none)) :: [Blk D (.deferred (some []))]) := by
          simpa [List.append_assoc] using h2
        have h3 := h2'.app.putObj (.loop (rec .busy none))
        have hr : (Instr.beginRound L).run P w2 = .ok () (w2.putObj L (.loop (rec .busy none))) := by
          have := run_beginRound (P := P) h2'.app.heap (q1 _ _)
          rw [hrec] at this ⊢; exact this
        refine ⟨_, hr, ?_⟩
        have h4 := h3.unapp
        refine wpIn_mono (hb _ [Blk L (.loop (rec .busy none)), Blk D (.deferred (some []))] (by simpa [List.append_assoc] using h4)) ?_
        have fin : ∀ (jump : Option Code) (A : List Asn) (w3 : World), Inv W w3 (A ++ [Blk L (.loop (rec .busy none)), Blk D (.deferred (some []))]) →
            ∃ w4, (Instr.endRound L jump).run P w3 = .ok (.bool jump.isNone) w4 ∧ Inv W w4 (A ++ [Blk L (.loop (rec (if jump.isNone then .ready else .done) jump)), Blk D (.deferred (some []))]) := fun jump A w3 h5 => by
          have h6 := h5.app (A := Blk L (.loop (rec .busy none))) (L := A) (Rs := [Blk D (.deferred (some []))])
          have hr : (Instr.endRound L jump).run P w3 = .ok (.bool jump.isNone) (w3.putObj L (.loop (rec (if jump.isNone then .ready else .done) jump))) := by
            have := run_endRound (P := P) jump h6.heap
            rw [hrec] at this ⊢; exact this
          exact ⟨_, hr, (h6.putObj (.loop (rec (if jump.isNone then .ready else .done) jump))).unapp⟩
        intro e3 a3 w3 hp3
        cases e3 with
        | normal =>
          obtain ⟨w4, hr, h5⟩ := fin none (It k ++ J (k + 1)) w3 (by have : Inv W w3 _ := hp3; simpa [List.append_assoc] using this)
          exact ⟨_, _, hr, .inl ⟨rfl, by simpa [List.append_assoc] using h5⟩⟩
        | ret =>
          obtain ⟨w4, hr, h5⟩ := fin (some .ret) (Z k .ret) w3 hp3
          exact ⟨_, _, hr, .inr ⟨rfl, Inv.ex_mk (.ret) (Inv.joined (by rw [List.append_nil]; exact h5))⟩⟩
        | exit id =>
          obtain ⟨w4, hr, h5⟩ := fin (some (.exit id)) (Z k (.exit id)) w3 hp3
          exact ⟨_, _, hr, .inr ⟨rfl, Inv.ex_mk (.exit id) (Inv.joined (by rw [List.append_nil]; exact h5))⟩⟩
        | goto t =>
          obtain ⟨w4, hr, h5⟩ := fin (some (.goto t)) (Z k (.goto t)) w3 hp3
          exact ⟨_, _, hr, .inr ⟨rfl, Inv.ex_mk (.goto t) (Inv.joined (by rw [List.append_nil]; exact h5))⟩⟩
        | panic ch => exact hp3.elim
        | outgrown => exact hp3.elim
      | ret => exact hp.elim
      | exit id => exact hp.elim
      | goto t => exact hp.elim
      | panic ch => exact hp.elim
      | outgrown => exact hp.elim
    · have e1 : Inv W W1 (Blk D (.deferred (some [])) :: ((Blk L (.loop (rec .ready none)) :: (It 0 ++ J 0)) ++ [])) := by rw [List.append_nil]; exact h1.pull1
      have e2 := e1.unapp
      have e3 := Inv.unapp (L := It 0 ++ J 0) (A := Blk L (.loop (rec .ready none))) (Rs := [Blk D (.deferred (some []))]) e2
      simpa [List.append_assoc] using e3
end Go.Proofs.Ytfackochjlccpaa
