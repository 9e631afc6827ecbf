/- The ring's window as an iterator; Ready, Refs, Trim. -/
import Derived.Test.YtfackochjlccpaaRing
import Derived.Test.YtfackochjlccpaaIter
import Derived.Test.YtfackochjlccpaaInfo
namespace Go.Proofs.Ytfackochjlccpaa
open Go Go.RowKit Go.Shelf
attribute [local go_sem] Oper.semAt_some
set_option linter.unusedVariables false
set_option linter.unusedSimpArgs false

def wenc (x : Nat × Int × Bool) : Array Value := #[.int .i64 x.1, .agg #[.int .i64 x.2.1, .bool x.2.2]]
/-- The offsets from m on, with their places. -/
def RSt.win (s : RSt) (m : Nat) : List (Nat × Int × Bool) := (List.range (s.t - m)).map fun j => (m + j, s.L[m + j - s.h]?.getD (0, false))

def winIt (fb rb b : Nat) (from_ : Int) (s : RSt) : List Asn :=
  [Blk fb (.cells #[.int .i64 from_] 3 (0, 0)), Blk rb (.cells #[.pointer (some ⟨b, 0, none⟩)] 24 (0, 0)), RingA b s]

set_option maxHeartbeats 400000 in
theorem window_any {W w : World} {Rs : List Asn} {b : Nat} {s : RSt} (h : Inv W w (RingA b s :: Rs)) (from_ : Int) :
    Calls Try.prog 33 #[.pointer (some ⟨b, 0, none⟩), .int .i64 from_] w fun e w' => ∃ fb rb, e = .returned (.func (.func 35) #[] #[.pointer (some ⟨fb, 0, none⟩), .pointer (some ⟨rb, 0, none⟩)]) ∧ Inv W w' (winIt fb rb b from_ s ++ Rs) := by
  have fin := ((h.alloc (.cells #[.pointer (some ⟨b, 0, none⟩)] 24)).alloc (.cells #[.int .i64 from_] 3))
  rw [World.size_alloc] at fin
  have FIN := Lib.hid fin
  clear fin h
  go_enter Try.func33, Try.ntmps33
  go_wp2
  go_ret
  exact ⟨_, _, rfl, FIN.out⟩

set_option maxHeartbeats 1000000 in
set_option maxRecDepth 100000 in
theorem window_iter (fb rb b : Nat) (from_ : Int) (s : RSt) (m : Nat) (hm : (if from_ < s.h then (s.h : Int) else from_) = m) :
    Iter Try.prog 35 #[.pointer (some ⟨fb, 0, none⟩), .pointer (some ⟨rb, 0, none⟩)] wenc (s.win m) (fun _ => winIt fb rb b from_ s) := by
  intro W l J Z w hY h0
  have hlen : (s.win m).length = s.t - m := by simp [RSt.win]
  rw [hlen]
  refine callsIn_of_wp Try.func35 rfl trivial ?_ rfl
  simp only [Try.ntmps35, List.size_toArray, List.length_cons, List.length_nil, Nat.reduceAdd, Nat.reduceSub, Array.replicate_succ, Array.replicate_zero, List.push_toArray, List.append_toArray, List.nil_append, List.cons_append]
  have hB : Inv W w (Blk fb (.cells #[.int .i64 from_] 3 (0, 0)) :: Blk rb (.cells #[.pointer (some ⟨b, 0, none⟩)] 24 (0, 0)) :: RingA b s :: J 0) := h0
  have k0 := hB.cell (off := 0) (v := .int .i64 from_) rfl
  have k1 := hB.pull1.cell (off := 0) (v := .pointer (some ⟨b, 0, none⟩)) rfl
  obtain ⟨q, r⟩ := ring_read hB.pull2
  have c2 := r.c2
  have H0 := Lib.hid h0
  have HY := Lib.hid hY
  have HM := Lib.hid hm
  clear hY h0 hB hm hlen
  gi_wp2
  gi_quiet (fail)
  rw [HM.out]
  gi_wp2
  have hmh : s.h ≤ m := by have := HM.out; split at this <;> omega
  clear c2 k0 k1 r q
  gi_loopw [4] (fun i wr => ∃ k o : Nat, (k ≤ s.t - m ∧ o = m + k) ∧ i = .int .i64 o ∧ Inv W wr (winIt fb rb b from_ s ++ J k)) (fun i _ => (s.t - intOf i).toNat)
  case atStart => exact ⟨0, m, ⟨Nat.zero_le _, rfl⟩, rfl, H0.out.drewN _⟩
  case round =>
    obtain ⟨k, o, ⟨hk, ho⟩, rfl, hI⟩ := hrel
    have hB : Inv W wr (Blk fb (.cells #[.int .i64 from_] 3 (0, 0)) :: Blk rb (.cells #[.pointer (some ⟨b, 0, none⟩)] 24 (0, 0)) :: RingA b s :: J k) := hI
    have k1 := hB.pull1.cell (off := 0) (v := .pointer (some ⟨b, 0, none⟩)) rfl
    obtain ⟨q, r⟩ := ring_read hB.pull2
    have c3 := r.c3
    have n0 := r.ok.n0
    have n1 := r.ok.n1
    have hT := (RSt.ne_of r.ok).1
    have HI := Lib.hid hI
    by_cases hlt : o < s.t
    · obtain ⟨p, hp, hc0, hc1⟩ := r.at o (by omega) hlt
      have hx : (s.win m)[k]? = some (o, p) := by
        subst ho
        simp only [RSt.win, List.getElem?_map, List.getElem?_range (show k < s.t - m by omega), Option.map_some, hp, Option.getD_some]
      have hT' : o ≤ 1099511627776 := by omega
      have HO := Lib.hid ho
      have HK := Lib.hid hk
      have HX := Lib.hid hx
      clear ho hk hx hI hB hp hT
      have r0 := Lib.hid r.c0
      clear r
      gi_wp2_with fail
      refine ⟨trivial, rfl, CallsIn.mono (callsIn_wide.2 (at_any b q s.n s.n o n0 n1 hT' _ (by simpa using r0.out))) ?_⟩
      rintro e w' ⟨rfl, m', rfl⟩
      dsimp only
      obtain ⟨fn, tmps, assign, body, hy, hR⟩ := HY.out k (o, p) (wr.drewN m') HX.out (HI.out.drewN m')
      dsimp only [wenc] at hy
      gi_wp2_with fail
      refine ⟨rfl, hR.mono ?_⟩
      rintro e W' (⟨rfl, hJ'⟩ | ⟨rfl, hZ⟩)
      · have HJ := Lib.hid hJ'
        clear hJ' hy hR
        dsimp only
        gi_wp2
        go_roundw
        case rel => exact ⟨k + 1, o + 1, ⟨by have := HO.out; omega, by have := HO.out; omega⟩, by go_num, HJ.out⟩
        case measure => simp [intOf]; omega
      · have HZ := Lib.hid hZ
        clear hZ hy hR
        dsimp only
        gi_wp2
        refine bodyPost_ret (results_none rfl _ _ _) rfl ?_
        exact ⟨⟨_, rfl⟩, .inr ⟨k, by have := HO.out; omega, HZ.out⟩⟩
    · have hkk : k = s.t - m := by omega
      subst hkk
      clear ho hk hI hB r
      gi_wp2
      go_end0
      exact ⟨⟨_, rfl⟩, .inl HI.out⟩
theorem win_len (s : RSt) (m : Nat) : (s.win m).length = s.t - m := by simp [RSt.win]

/-- The window's references. -/
def RSt.refs (s : RSt) : List Int := s.L.map (·.1)
def winRefs (s : RSt) (m k : Nat) : List Int := ((s.win m).take k).map (·.2.1)
theorem winRefs_all (s : RSt) : winRefs s s.h (s.t - s.h) = s.refs := by
  unfold winRefs
  rw [List.take_of_length_le (by rw [win_len]; exact Nat.le_refl _)]
  apply List.ext_getElem?
  intro i
  simp only [RSt.refs, List.getElem?_map]
  by_cases h : i < s.L.length
  · have h2 : i < s.t - s.h := by unfold RSt.t; omega
    simp [RSt.win, List.getElem?_range h2, List.getElem?_eq_getElem h, show s.h + i - s.h = i by omega]
  · have h2 : ¬ i < s.t - s.h := by unfold RSt.t; omega
    rw [List.getElem?_eq_none (by rw [win_len]; omega), List.getElem?_eq_none (by omega)]
    rfl
theorem winRefs_succ {s : RSt} {m k : Nat} {x : Nat × Int × Bool} (h : (s.win m)[k]? = some x) : winRefs s m (k + 1) = winRefs s m k ++ [x.2.1] := by
  obtain ⟨hlt, hx⟩ := List.getElem?_eq_some_iff.1 h
  unfold winRefs
  rw [List.take_succ_eq_append_getElem hlt, hx]
  simp
theorem winRefs_len {s : RSt} {m k : Nat} (h : k ≤ s.t - m) : (winRefs s m k).length = k := by
  unfold winRefs
  rw [List.length_map, List.length_take, win_len]; omega

set_option maxHeartbeats 1000000 in
set_option maxRecDepth 100000 in
theorem ring_refs {W w : World} {Rs : List Asn} {b : Nat} {s : RSt} (h : Inv W w (RingA b s :: Rs)) :
    Calls Try.prog 19 #[.pointer (some ⟨b, 0, none⟩)] w fun e w' => ∃ A c, e = .returned (.slice A s.L.length c) ∧ Inv W w' (RowA 3 1 A s.L.length c (ints s.refs) :: RingA b s :: Rs) := by
  obtain ⟨q, r⟩ := ring_read h
  have n0 := r.ok.n0
  have c0 := r.c0
  have c2 := r.c2
  have ok := r.ok
  have H := Lib.hid h
  clear h r
  refine (callsIn_wide (n := 0)).1 ?_
  refine callsIn_of_wp_marks (n := 0) Try.func19 rfl trivial ?_ rfl
  simp only [Try.ntmps19, List.size_toArray, List.length_cons, List.length_nil, Nat.reduceAdd, Nat.reduceSub, Array.replicate_succ, Array.replicate_zero, List.push_toArray, List.append_toArray, List.nil_append, List.cons_append]
  gi_wp2_with fail
  refine ⟨trivial, rfl, CallsIn.mono (callsIn_wide.2 (is_some _ _ s.n s.n n0 _ c0)) ?_⟩
  rintro e w' ⟨rfl, rfl⟩
  dsimp only
  have hL := (row_nil (H.out.alloc (.cells #[.slice none 0 0] 39)) 3 1).pull1
  have hL2 := boxrow_shut (n := 0) hL
  obtain ⟨q', r'⟩ := ring_read hL2.pull1
  have c2' := r'.c2
  clear r'
  have HL2 := Lib.hid hL2
  clear hL hL2
  gi_wp2_with fail
  refine ⟨trivial, rfl, CallsIn.mono (callsIn_wide.2 (window_any HL2.out.pull1 s.h)) ?_⟩
  rintro e w2 ⟨fb, rb, rfl, hI⟩
  dsimp only
  gi_wp2_with fail
  refine wp_range (gf := 35) (W := W) rfl (enters_of Try.func35 (by kernel_rfl) rfl) (window_iter fb rb b s.h s s.h (by simp)) (fun _ => rfl)
    (fun k => BoxRow w.heap.size 39 3 1 k (ints (winRefs s s.h k)) :: Rs) (fun _ _ => [FalseA]) hI ?round ?done ?stop
  case round =>
    intro l k x w1 R hx hI
    have hk : k < s.t - s.h := by have := (List.getElem?_eq_some_iff.1 hx).1; rwa [win_len] at this
    have hkb : k ≤ 64 := by have := ok.len; have := ok.n1; unfold RSt.t at hk; omega
    obtain ⟨o, ref, d⟩ := x
    have hs := winRefs_succ hx
    have HS := Lib.hid hs
    have HI := Lib.hid hI
    clear hI hx hs hk
    dsimp only [wenc]
    gi_wp2
    refine ⟨[Blk w1.heap.size (.cells #[.int .i64 ref, .bool d] 61 (0, 0))], HI.out.alloc _, fun w3 R' h3 => ?_⟩
    obtain ⟨pb, hpb⟩ : ∃ x, w1.heap.size = x := ⟨_, rfl⟩
    rw [hpb] at h3 ⊢
    clear hpb HI
    obtain ⟨A, c, h5⟩ := boxrow_open (Inv.pull4 h3)
    clear h3
    have hc1 := h5.cell (off := 0) (v := .slice A k c) rfl
    have hc2 := h5.pull2.cell (off := 0) (v := .int .i64 ref) rfl
    obtain ⟨i0, hi, hz0, hz1, hz2⟩ := info_parts intInfo
    have H5 := Lib.hid h5
    clear h5
    gi_wp2_with (gi_at_builtin; refine wpListIn_append_row rfl _ _ 39 rfl i0 _ 8 Try.underlying39 hi hz0 hz1 hz2 rfl (by decide) rfl (H5.out.alloc _).pull2 ⟨w3.heap.size, 0, none⟩ 1 1 [.int .i64 ref] rfl rfl ?c1 ?c2 ?c3 ?c4 ?_)
    case c1 => exact new_one _ _ _
    case c2 => exact one_one rfl
    case c3 => exact len_ok (by omega)
    case c4 => omega
    intro A' c'' w' h6
    have hcl := h6.pull2.cell (off := 0) (v := .slice A k c) rfl
    have hfl := h6.pull2.frozen (off := 0)
    have H6 := Lib.hid h6
    clear h6
    gi_wp2
    have h8 := boxrow_shut (H6.out.pull2.set1 (.slice A' (k + 1) c'')).pull2.drop.pull2.drop
    rw [HS.out]
    show Inv W _ (winIt fb rb b s.h s ++ BoxRow w.heap.size 39 3 1 (k + 1) (ints (winRefs s s.h k ++ [ref])) :: (Rs ++ R'))
    rw [ints_snoc]
    exact h8.push3
  case done =>
    intro D w2 hI
    rw [win_len, winRefs_all] at hI
    have hl : s.t - s.h = s.L.length := by unfold RSt.t; omega
    rw [hl] at hI
    have h2 : Inv W w2 (BoxRow w.heap.size 39 3 1 s.L.length (ints s.refs) :: Blk D (.deferred (some [])) :: (winIt fb rb b s.h s ++ Rs)) := Inv.pull4 hI
    obtain ⟨A, c, h3⟩ := boxrow_open h2
    have hc1 := h3.cell (off := 0) (v := .slice A s.L.length c) rfl
    have hK := h3.pull2.heap
    have H3 := Lib.hid h3
    clear h2 h3 hI hl
    gi_wp2
    refine ⟨by simp, .inl ⟨_, _, rfl, run_takeDeferred hK, ?_⟩⟩
    exact ⟨_, results_tmp rfl _ _ _, A, c, rfl, (H3.out.pull2.putObj (.deferred none)).drop.drop.pull1.drop.pull1.drop⟩
  case stop =>
    intro D c k w2 hk hI
    exact (Inv.falso hI.drop).elim
end Go.Proofs.Ytfackochjlccpaa
