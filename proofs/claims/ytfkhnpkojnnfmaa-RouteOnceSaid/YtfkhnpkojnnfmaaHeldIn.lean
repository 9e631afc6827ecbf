/- A region that draws its order, inside a round of a range over a function: by the laws for regions outside of it. No program in sight. -/
import Derived.Test.YtfkhnpkojnnfmaaRd
import Derived.Deep.RegionHeld3
import Derived.OrdersIn
import Derived.RangeFuncCalls
import Derived.OwnWalkIn
import Derived.TacticsInMore
namespace Go.Proofs.Ytfkhnpkojnnfmaa
open Go Go.RowKit
set_option linter.unusedVariables false
theorem rowsIn_of {l n : Nat} {P : Program} {row : String} {args : Array Value} {w : World} {R : Value → World → Prop} (h : Rows P row args w R) : RowsIn (Fence.wide.inRound l) n P row args w R :=
  fun c cs _ => let ⟨v, w', r, s⟩ := h c cs; ⟨v, w', r, stepsIn_wide.2 s⟩
theorem operIn_of {l : Nat} {P : Program} {o : Oper} {a : Act} {w : World} {K : Act → World → Prop} {Q : Exit → Act → World → Prop} (hnd : ∀ c, o.op ≠ .defer c) (h : Oper.wp P o a w K Q) : Oper.wpIn (Fence.wide.inRound l) 0 P o a w K Q := by
  refine ⟨fun _ _ => trivial, ?_⟩
  rw [Oper.semAt_plain (Fence.wide.inRound l) _ _ hnd]
  unfold Oper.wp at h
  generalize (execOp a.eval o).run P w = r at h
  have hd : (Fence.wide.inRound l).depth.isSome = true → 1 ≤ 0 := fun hd => by simp [Fence.wide] at hd
  cases r with
  | ok n w' =>
    cases n <;> simp only [Oper.upon, Oper.uponIn] at h ⊢ <;> first | exact h | exact h.elim | exact ⟨hd, CallsIn.inRound l (callsIn_wide.2 h)⟩ | exact ⟨hd, rowsIn_of h⟩
  | halt x w' =>
    cases x <;> exact h
section
variable {P : Program} {ops : Array Oper} {md : Region.Mode} {S : World → Prop}
theorem anyIn_of {Q : Exit → Act → World → Prop} {l : Nat} (hnd : ∀ (i : Nat) o, ops[i]? = some o → ∀ c, o.op ≠ .defer c) (hQ : ¬ LetsOut Q) : ∀ (fuel : Nat) (listed : Array Bool) (a : Act) (w : World), wpAny P md ops Q fuel listed a w → wpAnyIn (Fence.wide.inRound l) 0 P md ops Q fuel listed a w
  | 0, _, _, _, h => h
  | fuel + 1, listed, a, w, h => by
    refine ⟨h.1, fun i hi => ?_⟩
    have h2 := h.2 i hi
    unfold wpOp at h2
    unfold wpOpIn
    cases ho : ops[i]? with
    | none => simp only [ho] at h2 ⊢; exact anyIn_of hnd hQ fuel _ _ _ h2
    | some o =>
      simp only [ho] at h2 ⊢
      split
      · rename_i hw
        rw [if_pos hw] at h2
        rcases h2 with h2 | ⟨_, h2⟩
        · exact Oper.wpIn_mono (fun a w h => anyIn_of hnd hQ fuel _ a w h) (operIn_of (hnd i o ho) h2)
        · exact (hQ h2).elim
      · rename_i hw
        rw [if_neg hw] at h2
        exact ⟨fun _ _ => trivial, anyIn_of hnd hQ fuel _ _ _ h2⟩
def noDefer (ops : Array Oper) : Bool := ops.all fun o => match o.op with
  | .defer _ => false
  | _ => true
theorem noDefer_spec (h : noDefer ops = true) : ∀ (i : Nat) o, ops[i]? = some o → ∀ c, o.op ≠ .defer c := by
  intro i o ho c hc
  have := Array.all_eq_true.1 h i (Array.getElem?_eq_some_iff.1 ho).1
  rw [(Array.getElem?_eq_some_iff.1 ho).2, hc] at this
  cases this
/-- The post of a way, but for what is out of room or panics. -/
def calmQ (Q : Exit → Act → World → Prop) : Exit → Act → World → Prop
  | .normal, a, w => Q .normal a w
  | _, _, _ => False
theorem wpIn_region_held {Q : Exit → Act → World → Prop} {l id : Nat} {a : Act} {w : World} (hm : P.follows .mixedOrders = true) (hnd : noDefer ops = true) (hS : S w.drew)
    (h : S w.drew → wpAnyH P .any ops (calmQ Q) S ops.size (Array.replicate ops.size false) a w.drew) : (Code.region id ops true).wpIn (Fence.wide.inRound l) 0 P Q a w :=
  wpIn_mono (wpIn_region_any hm (anyIn_of (noDefer_spec hnd) (fun ⟨_, _, h⟩ => h) _ _ _ _ (wpAny_of_held _ _ _ _ (h hS)))) fun e a w hq => by
    cases e with
    | normal => exact hq
    | exit id => exact hq.elim
    | goto l => exact hq.elim
    | ret => exact hq.elim
    | panic c => exact hq.elim
    | outgrown => exact hq.elim
theorem ev_put_ne {a : Act} {d i : Nat} {v : Value} (h : d ≠ i) : (a.put (some d) v).eval (.tmp i) = a.eval (.tmp i) := by
  simp [Act.eval, Act.put, Array.getD_eq_getD_getElem?, h]
theorem ev_put_eq {a : Act} {d : Nat} {v : Value} (h : d < a.tmps.size) : (a.put (some d) v).eval (.tmp d) = v := by
  simp [Act.eval, Act.put, Array.getD_eq_getD_getElem?, h]
theorem put_size {a : Act} {d : Nat} {v : Value} : (a.put (some d) v).tmps.size = a.tmps.size := by simp [Act.put]
theorem ev_const {a : Act} {v : Value} : a.eval (.const v) = v := rfl
theorem yields_val {ρ : Operand → Value} {o : Oper} {w : World} {v : Value} {m : Sem Value} (h : execOp ρ o = (do pure (.value (← m)))) (hv : m.run P w = .ok v w) : (execOp ρ o).run P w = .ok (.value v) w := by
  rw [h]
  simp [hv]
theorem yields_in {ρ : Operand → Value} {o : Oper} {w w' : World} {v : Value} {m : Sem Value} (h : execOp ρ o = (do pure (.value (← m)))) (hv : m.run P w = .ok v w') : (execOp ρ o).run P w = .ok (.value v) w' := by
  rw [h]
  simp [hv]
theorem skips_in {ρ : Operand → Value} {o : Oper} {w w' : World} {m : Sem Unit} (h : execOp ρ o = (do m; pure .skip)) (hv : m.run P w = .ok () w') : (execOp ρ o).run P w = .ok .skip w' := by
  rw [h]
  simp [hv]
/-- The same outside of a round. -/
theorem wp_region_calm {Q : Exit → Act → World → Prop} {id : Nat} {a : Act} {w : World} (hm : P.follows .mixedOrders = true) (hS : S w.drew)
    (h : S w.drew → wpAnyH P .any ops (calmQ Q) S ops.size (Array.replicate ops.size false) a w.drew) : (Code.region id ops true).wp P Q a w :=
  wp_mono (wp_region_held_drew hm hS h) fun e a w hq => by
    cases e with
    | normal => exact hq
    | exit id => exact hq.elim
    | goto l => exact hq.elim
    | ret => exact hq.elim
    | panic c => exact hq.elim
    | outgrown => exact hq.elim
theorem wp_callf {Q : Exit → Act → World → Prop} {o : Oper} {a : Act} {w w' : World} {K : Act → World → Prop} {f : FuncId} {args : Array Value} {R : Ending → World → Prop} (h : (execOp a.eval o).run P w = .ok (.enter f args) w') (hc : Calls P f args w' R)
    (hk : ∀ e w'', R e w'' → ∃ v, e = .returned v ∧ K (a.put o.dst v) w'') : Oper.wp P o a w K Q := by
  unfold Oper.wp
  rw [h]
  refine Calls.mono hc fun e w'' he => ?_
  obtain ⟨v, rfl, hv⟩ := hk e w'' he
  exact hv
theorem wp_val {Q : Exit → Act → World → Prop} {o : Oper} {a : Act} {w w' : World} {v : Value} {K : Act → World → Prop} (h : (execOp a.eval o).run P w = .ok (.value v) w') (hk : K (a.put o.dst v) w') : Oper.wp P o a w K Q := by
  unfold Oper.wp
  rw [h]
  exact hk
theorem wp_skip' {Q : Exit → Act → World → Prop} {o : Oper} {a : Act} {w w' : World} {K : Act → World → Prop} (h : (execOp a.eval o).run P w = .ok .skip w') (hk : K (a.put o.dst undef) w') : Oper.wp P o a w K Q := by
  unfold Oper.wp
  rw [h]
  exact hk
theorem wp_append_rd {Q : Exit → Act → World → Prop} {W w : World} {e : TypeId} {sz n m c c' : Nat} {A B : Option Addr} {xs cs : List Value} {Rs : List Asn} {o : Oper} {a : Act} {K : Act → World → Prop} (s x : Operand) (t : TypeId)
    (ho : o.op = .call { callee := .builtin .append, args := #[s, x], argTypes := #[t, t] })
    (i : TypeInfo) (z : Value) (bytes : Nat) (ht : P.underlying t = some (.slice e)) (hi : P.info? e = some i) (hz : i.zero = some z) (hsize : i.size = sz) (hby : i.bytes = bytes) (hzs : z.cells.size = sz) (hsz : 0 < sz)
    (hs : a.eval s = .slice A n c) (h : Inv W w (RowA e sz A n c xs :: Rs))
    (hx : a.eval x = .slice B m c') (hr : Rd w sz B m cs) (h1 : ∀ u ∈ cs, u.oneCell' = true)
    (h63 : n + m ≤ maxLen) (hbytes : (n + m) * bytes ≤ 140737488355328)
    (hk : ∀ A' c'' w', Inv W w' (RowA e sz A' (n + m) c'' (xs ++ cs) :: Rs) → K (a.put o.dst (.slice A' (n + m) c'')) w') : Oper.wp P o a w K Q := by
  obtain ⟨A', c'', w', hr, h2⟩ := run_append_rd (P := P) (c' := c') t o.type i z bytes ht hi hz hsize hby hzs hsz h hr h1 h63 hbytes
  unfold Oper.wp execOp
  simp only [ho, resolve, invoke, builtin, Sem.run_bind, Sem.run_pure, Result.andThen_ok, List.map_toArray, List.map_cons, List.map_nil, hs, hx, hr]
  exact hk A' c'' w' h2
end
end Go.Proofs.Ytfkhnpkojnnfmaa
