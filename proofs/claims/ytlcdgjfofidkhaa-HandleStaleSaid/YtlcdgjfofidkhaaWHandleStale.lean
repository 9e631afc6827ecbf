/- HandleStale: behind a generation more in its book a handle is stale, and its next one is live; no other slot's is touched; for every book and slot. -/
import Derived.Test.YtlcdgjfofidkhaaHandleAll
import Derived.Test.YtlcdgjfofidkhaaAmong
import Derived.Test.YtlcdgjfofidkhaaOpen
namespace Go.Proofs.Ytlcdgjfofidkhaa
open Go Go.RowKit
set_option linter.unusedVariables false
set_option linter.unusedSimpArgs false
theorem InI.rdi {w : World} {A : Option Addr} {zs : List Int} (h : InI .i64 w A zs) (hb : zs.length ≤ 140737488355328) : RdI w A zs :=
  ⟨hb, fun h0 => by obtain ⟨g, o, rfl, hc⟩ := h h0; exact ⟨_, rfl, fun j x hj => by rw [addr_add]; exact (hc j x hj).1⟩⟩
set_option maxHeartbeats 400000 in
theorem next_ok (s g : Nat) (h1 : s < 128) (h3 : g + 1 < 1099511627776) (w : World) :
    Calls Try.prog 15 #[.int .i64 (1 + (s : Int) + (g : Int) * 128)] w fun e w' => e = .returned (duoV (1 + (s : Int) + ((g : Int) + 1) * 128, 0)) ∧ w = w' := by
  have e1 := hCut_of (s := s) (g := g) (by omega) (by omega) (by omega) (by omega)
  have e2 := hOf_ok (s := s) (g := (g : Int) + 1) (by omega) (by omega) (by omega) (by omega)
  have hg : (g : Int) < 1099511627775 := by omega
  have He1 := Lib.hid e1
  have He2 := Lib.hid e2
  clear e1 e2
  clear h3
  go_enter Try.func15, Try.ntmps15
  go_wp2_with fail
  refine (cut_any _ _).mono ?_
  rintro e w' ⟨rfl, rfl⟩
  rw [He1.out]
  dsimp only [triV]
  go_wp2_with fail
  refine (of_any _ _ _).mono ?_
  rintro e w' ⟨rfl, rfl⟩
  rw [He2.out]
  dsimp only [duoV]
  go_wp2
  go_ret2
  exact ⟨rfl, rfl⟩
set_option maxHeartbeats 1000000 in
set_option maxRecDepth 100000 in
theorem works04 (w : World) : Calls Try.prog 7 #[] w (RetB w (.bool true)) := by
  have e1 : hOf 3 0 = (4, 0) := by decide
  have e2 : hOf 3 2 = (260, 0) := by decide
  have e3 : hLive [0, 0, 0, 2] 4 = (0, 40) := by decide
  have e4 : hLive [0, 0, 0, 2] 260 = (3, 0) := by decide
  have hx : ∀ (j : Nat) (x : Int), [(0 : Int), 0, 0, 2][j]? = some x → #[(.int .i64 0 : Value), .int .i64 0, .int .i64 0, .int .i64 2][j]? = some (.int .i64 x) := fun j x hj => by
    match j, hj with
    | 0, hj => simp at hj; subst hj; rfl
    | 1, hj => simp at hj; subst hj; rfl
    | 2, hj => simp at hj; subst hj; rfl
    | 3, hj => simp at hj; subst hj; rfl
  have h1 := (Inv.refl w).alloc (.cells #[.int .i64 0, .int .i64 0, .int .i64 0, .int .i64 2] 3)
  have r1 := blk_rdi h1 (xs := [0, 0, 0, 2]) hx (by decide)
  have h2 := h1.alloc (.cells #[.int .i64 0, .int .i64 0, .int .i64 0, .int .i64 2] 3)
  have r2 := blk_rdi h2 (xs := [0, 0, 0, 2]) hx (by decide)
  rw [World.size_alloc] at r2
  have He1 := Lib.hid e1
  have He2 := Lib.hid e2
  have He3 := Lib.hid e3
  have He4 := Lib.hid e4
  have Hr1 := Lib.hid r1
  have Hr2 := Lib.hid r2
  have Hh2 := Lib.hid h2
  clear e1 e2 e3 e4 r1 r2 h2
  clear h1 hx
  go_enter Try.func7, Try.ntmps7
  go_wp2_with fail
  refine (of_any 3 0 _).mono ?_
  rintro e w' ⟨rfl, rfl⟩
  rw [He1.out]
  dsimp only [duoV]
  go_wp2_with fail
  refine (of_any 3 2 _).mono ?_
  rintro e w' ⟨rfl, rfl⟩
  rw [He2.out]
  dsimp only [duoV]
  go_wp2_with fail
  refine (live_any _ [0, 0, 0, 2] 4 4 rfl 4 _ Hr1.out).mono ?_
  rintro e w' ⟨rfl, rfl⟩
  rw [He3.out]
  dsimp only [duoV]
  go_wp2_with fail
  refine (live_any _ [0, 0, 0, 2] 4 4 rfl 260 _ Hr2.out).mono ?_
  rintro e w' ⟨rfl, rfl⟩
  rw [He4.out]
  dsimp only [duoV]
  go_wp2
  go_ret
  exact ⟨rfl, Hh2.out.below⟩
/-- The book of one's own, of the first k. -/
def gsOf (bs : List Int) (k : Nat) : List Int := (bs.take k).map fun x => amongI x 1099511627775
theorem gsOf_len {bs : List Int} {k : Nat} (h : k ≤ bs.length) : (gsOf bs k).length = k := by simp [gsOf]; omega
theorem gsOf_succ {bs : List Int} {k : Nat} {x : Int} (h : bs[k]? = some x) : gsOf bs (k + 1) = gsOf bs k ++ [amongI x 1099511627775] := by
  unfold gsOf
  rw [List.take_add_one, h]
  simp
theorem gsOf_at {bs : List Int} {k i : Nat} {g : Int} (h : (gsOf bs k)[i]? = some g) : 0 ≤ g ∧ g < 1099511627775 := by
  simp only [gsOf, List.getElem?_map, Option.map_eq_some_iff] at h
  obtain ⟨x, _, rfl⟩ := h
  exact amongI_lt x _ (by omega)
theorem gsOf_gens {bs : List Int} {k : Nat} (hk : k ≤ bs.length) (h8 : k ≤ 128) : Gens (gsOf bs k) :=
  ⟨by rw [gsOf_len hk]; exact h8, fun i g h => by have := gsOf_at h; omega⟩
/-- The handles in a book in which slot k is a generation on. -/
theorem live_set {gs : List Int} {k i : Nat} {g x : Int} (hg : gs[i]? = some g) (hi : i < 128) (g0 : 0 ≤ g) (g1 : g < 1099511627775) (hx : gs[k]? = some x) :
    hLive (gs.set k (x + 1)) (1 + (i : Int) + g * 128) = if i = k then (0, 40) else ((i : Int), 0) := by
  obtain ⟨g, rfl⟩ : ∃ m : Nat, g = m := ⟨g.toNat, by omega⟩
  have hkl := (List.getElem?_eq_some_iff.1 hx).1
  rw [hLive_of (hCut_of (by omega) (by omega) (by omega) (by omega))]
  by_cases e : i = k
  · subst e
    rw [List.getElem?_set_self hkl, if_pos rfl]
    rw [hg] at hx
    cases hx
    dsimp only
    rw [if_pos (by omega)]
  · rw [List.getElem?_set_ne (Ne.symm e), hg, if_neg e]
    dsimp only
    rw [if_neg (by simp)]
theorem live_next {gs : List Int} {k : Nat} {x : Int} (hx : gs[k]? = some x) (hk : k < 128) (g0 : 0 ≤ x) (g1 : x < 1099511627775) :
    hLive (gs.set k (x + 1)) (1 + (k : Int) + (x + 1) * 128) = ((k : Int), 0) := by
  obtain ⟨x, rfl⟩ : ∃ m : Nat, x = m := ⟨x.toNat, by omega⟩
  have hkl := (List.getElem?_eq_some_iff.1 hx).1
  have := hCut_of (s := k) (g := (x : Int) + 1) (by omega) (by omega) (by omega) (by omega)
  rw [show (x : Int) + 1 = ((x + 1 : Nat) : Int) by omega] at this ⊢
  rw [hLive_of this, List.getElem?_set_self hkl]
  simp
set_option maxHeartbeats 1500000 in
set_option maxRecDepth 100000 in
theorem handleStale_walk (A : Option Addr) (len cap : Nat) (zs : List Int) (slot : Int) (w : World) (hz : zs.length = len ∧ len ≤ cap ∧ cap ≤ maxLen ∧ len * 8 ≤ 140737488351232 ∧ InI .i64 w A zs) (w1 : (Lit.int .i64 slot).wf = true) :
    Calls Try.prog 6 #[.slice A len cap, .int .i64 slot] w (RetB w (.bool true)) := by
  obtain ⟨hl, hlc, hcm, h8, hin⟩ := hz
  have hr := hin.rdi (by omega)
  have hlb : len ≤ 17592186043904 := by omega
  clear hcm hlc w1 hin h8
  have Hn0 := Lib.hid hl
  have Hhr := Lib.hid hr
  clear hr
  clear hl
  go_enter Try.func6, Try.ntmps6
  go_wp2_with fail
  refine (works04 _).mono ?_
  rintro e w1 ⟨rfl, hw⟩
  dsimp only
  have hI := (Inv.refl w).grow hw
  have hrow : Inv w (w1.alloc (.cells #[] 3)) [RowA 3 1 (some ⟨w1.heap.size, 0, none⟩) 0 0 []] := row_mk (hI.alloc _) (Nat.le_refl 0) (by decide) (by simp) (by simp)
  clear hw hI
  have Hhrow := Lib.hid hrow
  clear hrow
  go_wp2_with fail
  go_loopw [5, 6] (fun v i wr => ∃ (k : Nat) (A' : Option Addr) (c' : Nat), (k ≤ len ∧ k ≤ 128) ∧ v = .slice A' k c' ∧ i = .int .i64 k ∧ Inv w wr [RowA 3 1 A' k c' (ints (gsOf zs k))]) (fun _ i _ => len - (intOf i).toNat)
  case atStart => exact ⟨0, _, 0, ⟨by omega, by omega⟩, rfl, rfl, by simpa [gsOf, ints] using Hhrow.out⟩
  case round =>
    obtain ⟨k, A', c', ⟨hk, hk8⟩, rfl, rfl, hI⟩ := hrel
    have HI := Lib.hid hI
    clear Hhrow
    by_cases hlt : k < len
    · by_cases h128 : k < 128
      · obtain ⟨x, hx⟩ : ∃ x, zs[k]? = some x := ⟨_, List.getElem?_eq_getElem (by have := Hn0.out; omega)⟩
        obtain ⟨ad, rfl, hc⟩ := Hhr.out.2 (by have := Hn0.out; omega)
        have hcx := hI.old_cell (hc k x hx)
        have hs := gsOf_succ hx
        obtain ⟨v, hv⟩ : ∃ v, amongI x 1099511627775 = v := ⟨_, rfl⟩
        rw [hv] at hs
        obtain ⟨i0, hi, hz0, hz1, hz2⟩ := info_parts intInfo
        have Hhs := Lib.hid hs
        have Hhv := Lib.hid hv
        clear hs hv
        clear hc hx hI
        go_wp2_with fail
        refine (among_any x _ (by omega) (by omega) _).mono ?_
        rintro e w' ⟨rfl, rfl⟩
        rw [Hhv.out]
        dsimp only
        go_wp2_with (at_builtin; refine wpList_append_row rfl _ _ 30 rfl i0 _ 8 Try.underlying30 hi hz0 hz1 hz2 rfl (by decide) rfl (HI.out.alloc (.cells #[.int .i64 v] 3)).pull1 ⟨_, 0, none⟩ 1 1 [.int .i64 v] rfl rfl ?c1 ?c2 ?c3 ?c4 ?_)
        case c1 => exact new_one _ _ _
        case c2 => exact one_one rfl
        case c3 => exact len_ok (by omega)
        case c4 => omega
        intro A2 c2 w' h6
        rw [← ints_snoc, ← Hhs.out] at h6
        have H6 := Lib.hid h6.pull1.drop
        clear h6
        go_wp2
        go_roundw
        case rel => exact ⟨k + 1, A2, c2, ⟨by omega, by omega⟩, rfl, by go_num, H6.out⟩
        case measure => simp [intOf]; omega
      · obtain rfl : k = 128 := by omega
        clear hI
        as_aux_lemma =>
        have hnl := Hn0.out
        have hG : Gens (gsOf zs 128) := gsOf_gens (by omega) (by omega)
        have hgl : (gsOf zs 128).length = 128 := gsOf_len (by omega)
        have hL8 : 128 ≤ 128 := by omega
        have Hhgl := Lib.hid hgl
        have HhG := Lib.hid hG
        clear hgl hG
        clear hnl
        go_wp2_with fail
        refine (all_any HhG.out Hhgl.out HI.out).mono ?_
        rintro e w2 ⟨A2, c2, rfl, hI2⟩
        dsimp only
        have HI2 := Lib.hid hI2
        clear hI2 HI
        by_cases h0 : 128 = 0
        · have hz : ((128 : Nat) : Int) = 0 := by omega
          rw [h0]
          clear hz
          go_wp2
          all_goals
            go_ret
            exact ⟨rfl, HI2.out.below⟩
        · have hpos : 0 < 128 := by omega
          have hnz : (((128 : Nat) : Int) == 0) = false := by rw [beq_eq_false_iff_ne]; omega
          obtain ⟨am0, am1⟩ := amongI_lt slot 128 (by omega)
          obtain ⟨q, hq⟩ : ∃ q : Nat, amongI slot 128 = q := ⟨(amongI slot 128).toNat, by omega⟩
          rw [hq] at am0 am1
          have hqn : q < 128 := by omega
          obtain ⟨x, hx⟩ : ∃ x, (gsOf zs 128)[q]? = some x := ⟨_, List.getElem?_eq_getElem (by rw [Hhgl.out]; exact hqn)⟩
          obtain ⟨x0, x1⟩ := gsOf_at hx
          obtain ⟨ga, rfl, hca⟩ := row_cell HI2.out.pull1 (ints_get hx)
          obtain ⟨ga', ega, _, hfz⟩ := row_at HI2.out.pull1 hpos
          cases ega
          have hfq := hfz q
          have hset := row_set HI2.out.pull1 q (by rw [ints_len, Hhgl.out]; exact hqn) (.int .i64 (x + 1))
          rw [ints_set] at hset
          obtain ⟨gl, rfl, _⟩ := row_cell HI2.out (ints_get (hands_at HhG.out hx))
          have Hset := Lib.hid hset
          have HX := Lib.hid hx
          have HQ := Lib.hid hq
          clear hset hx hq am0 am1 hfz h0 HI2
          go_wp2_with fail
          refine (among_any slot 128 (by omega) (by omega) _).mono ?_
          rintro e w' ⟨rfl, rfl⟩
          rw [HQ.out]
          dsimp only
          go_wp2_with fail
          go_loopw [10] (fun i wr => ∃ j : Nat, j ≤ 128 ∧ i = .int .i64 j ∧ Inv w wr [RowA 3 1 (some ⟨ga, 0, none⟩) 128 c' (ints ((gsOf zs 128).set q (x + 1))), RowA 3 1 (some ⟨gl, 0, none⟩) 128 c2 (ints (hands (gsOf zs 128)))]) (fun i _ => 128 - (intOf i).toNat)
          case atStart => exact ⟨0, Nat.zero_le _, rfl, by first | exact Hset.out | exact Hset.out.drew | exact Hset.out.drewN _⟩
          case round =>
            obtain ⟨j, hj, rfl, hJ⟩ := hrel
            have hrd := row_rdi hJ (by rw [List.length_set, Hhgl.out]; omega)
            have hsl : ((gsOf zs 128).set q (x + 1)).length = 128 := by rw [List.length_set, Hhgl.out]
            by_cases hjn : j < 128
            · obtain ⟨g, hg⟩ : ∃ g, (gsOf zs 128)[j]? = some g := ⟨_, List.getElem?_eq_getElem (by rw [Hhgl.out]; exact hjn)⟩
              obtain ⟨g0, g1⟩ := gsOf_at hg
              obtain ⟨gl', egl, hcl⟩ := row_cell hJ.pull1 (ints_get (hands_at HhG.out hg))
              cases egl
              have hlv := live_set hg (by omega) g0 g1 HX.out
              have HJ := Lib.hid hJ
              by_cases ejq : j = q
              · rw [if_pos ejq] at hlv
                have bq : ((j : Int) == (q : Int)) = true := by rw [beq_iff_eq]; omega
                have bq2 : ((j : Int) != (q : Int)) = false := by rw [bne_eq_false_iff_eq]; omega
                have Hhlv := Lib.hid hlv
                have Hhrd := Lib.hid hrd
                have Hhsl := Lib.hid hsl
                clear hlv hrd hsl
                clear hg hJ ejq
                go_wp2_with fail
                refine (live_any _ _ 128 _ Hhsl.out _ _ Hhrd.out).mono ?_
                rintro e w' ⟨rfl, rfl⟩
                rw [Hhlv.out]
                dsimp only [duoV]
                go_wp2
                go_roundw
                case rel => exact ⟨j + 1, by omega, by go_num, HJ.out⟩
                case measure => simp [intOf]; omega
              · rw [if_neg ejq] at hlv
                have bq : ((j : Int) == (q : Int)) = false := by rw [beq_eq_false_iff_ne]; omega
                have bq2 : ((j : Int) != (q : Int)) = true := by rw [bne_iff_ne]; omega
                have Hhlv := Lib.hid hlv
                have Hhrd := Lib.hid hrd
                have Hhsl := Lib.hid hsl
                clear hlv hrd hsl
                clear hg hJ ejq
                go_wp2_with fail
                refine (live_any _ _ 128 _ Hhsl.out _ _ Hhrd.out).mono ?_
                rintro e w' ⟨rfl, rfl⟩
                rw [Hhlv.out]
                dsimp only [duoV]
                go_wp2
                go_roundw
                case rel => exact ⟨j + 1, by omega, by go_num, HJ.out⟩
                case measure => simp [intOf]; omega
            · obtain rfl : 128 = j := by omega
              obtain ⟨x, rfl⟩ : ∃ m : Nat, x = m := ⟨x.toNat, by omega⟩
              have hnx := next_ok q x (by omega) (by omega)
              have hln := live_next HX.out (by omega) (by omega) (by omega)
              obtain ⟨gl', egl, hcl⟩ := row_cell hJ.pull1 (ints_get (hands_at HhG.out HX.out))
              cases egl
              have HJ := Lib.hid hJ
              have Hhnx := Lib.hid hnx
              have Hhln := Lib.hid hln
              have Hhrd := Lib.hid hrd
              have Hhsl := Lib.hid hsl
              clear hnx hln hrd hsl
              clear hJ
              go_wp2_with fail
              refine (Hhnx.out _).mono ?_
              rintro e w' ⟨rfl, rfl⟩
              dsimp only [duoV]
              go_wp2_with fail
              refine (live_any _ _ 128 _ Hhsl.out _ _ Hhrd.out).mono ?_
              rintro e w' ⟨rfl, rfl⟩
              rw [Hhln.out]
              dsimp only [duoV]
              go_wp2
              go_ret
              exact ⟨rfl, HJ.out.below⟩
    · obtain rfl : k = len := by omega
      clear hI
      as_aux_lemma =>
      have hnl := Hn0.out
      have hG : Gens (gsOf zs k) := gsOf_gens (by omega) (by omega)
      have hgl : (gsOf zs k).length = k := gsOf_len (by omega)
      have hL8 : k ≤ 128 := by omega
      have Hhgl := Lib.hid hgl
      have HhG := Lib.hid hG
      clear hgl hG
      clear hnl
      go_wp2_with fail
      refine (all_any HhG.out Hhgl.out HI.out).mono ?_
      rintro e w2 ⟨A2, c2, rfl, hI2⟩
      dsimp only
      have HI2 := Lib.hid hI2
      clear hI2 HI
      by_cases h0 : k = 0
      · have hz : ((k : Nat) : Int) = 0 := by omega
        rw [h0]
        clear hz
        go_wp2
        all_goals
          go_ret
          exact ⟨rfl, HI2.out.below⟩
      · have hpos : 0 < k := by omega
        have hnz : (((k : Nat) : Int) == 0) = false := by rw [beq_eq_false_iff_ne]; omega
        obtain ⟨am0, am1⟩ := amongI_lt slot k (by omega)
        obtain ⟨q, hq⟩ : ∃ q : Nat, amongI slot k = q := ⟨(amongI slot k).toNat, by omega⟩
        rw [hq] at am0 am1
        have hqn : q < k := by omega
        obtain ⟨x, hx⟩ : ∃ x, (gsOf zs k)[q]? = some x := ⟨_, List.getElem?_eq_getElem (by rw [Hhgl.out]; exact hqn)⟩
        obtain ⟨x0, x1⟩ := gsOf_at hx
        obtain ⟨ga, rfl, hca⟩ := row_cell HI2.out.pull1 (ints_get hx)
        obtain ⟨ga', ega, _, hfz⟩ := row_at HI2.out.pull1 hpos
        cases ega
        have hfq := hfz q
        have hset := row_set HI2.out.pull1 q (by rw [ints_len, Hhgl.out]; exact hqn) (.int .i64 (x + 1))
        rw [ints_set] at hset
        obtain ⟨gl, rfl, _⟩ := row_cell HI2.out (ints_get (hands_at HhG.out hx))
        have Hset := Lib.hid hset
        have HX := Lib.hid hx
        have HQ := Lib.hid hq
        clear hset hx hq am0 am1 hfz h0 HI2
        go_wp2_with fail
        refine (among_any slot k (by omega) (by omega) _).mono ?_
        rintro e w' ⟨rfl, rfl⟩
        rw [HQ.out]
        dsimp only
        go_wp2_with fail
        go_loopw [10] (fun i wr => ∃ j : Nat, j ≤ k ∧ i = .int .i64 j ∧ Inv w wr [RowA 3 1 (some ⟨ga, 0, none⟩) k c' (ints ((gsOf zs k).set q (x + 1))), RowA 3 1 (some ⟨gl, 0, none⟩) k c2 (ints (hands (gsOf zs k)))]) (fun i _ => k - (intOf i).toNat)
        case atStart => exact ⟨0, Nat.zero_le _, rfl, by first | exact Hset.out | exact Hset.out.drew | exact Hset.out.drewN _⟩
        case round =>
          obtain ⟨j, hj, rfl, hJ⟩ := hrel
          have hrd := row_rdi hJ (by rw [List.length_set, Hhgl.out]; omega)
          have hsl : ((gsOf zs k).set q (x + 1)).length = k := by rw [List.length_set, Hhgl.out]
          by_cases hjn : j < k
          · obtain ⟨g, hg⟩ : ∃ g, (gsOf zs k)[j]? = some g := ⟨_, List.getElem?_eq_getElem (by rw [Hhgl.out]; exact hjn)⟩
            obtain ⟨g0, g1⟩ := gsOf_at hg
            obtain ⟨gl', egl, hcl⟩ := row_cell hJ.pull1 (ints_get (hands_at HhG.out hg))
            cases egl
            have hlv := live_set hg (by omega) g0 g1 HX.out
            have HJ := Lib.hid hJ
            by_cases ejq : j = q
            · rw [if_pos ejq] at hlv
              have bq : ((j : Int) == (q : Int)) = true := by rw [beq_iff_eq]; omega
              have bq2 : ((j : Int) != (q : Int)) = false := by rw [bne_eq_false_iff_eq]; omega
              have Hhlv := Lib.hid hlv
              have Hhrd := Lib.hid hrd
              have Hhsl := Lib.hid hsl
              clear hlv hrd hsl
              clear hg hJ ejq
              go_wp2_with fail
              refine (live_any _ _ k _ Hhsl.out _ _ Hhrd.out).mono ?_
              rintro e w' ⟨rfl, rfl⟩
              rw [Hhlv.out]
              dsimp only [duoV]
              go_wp2
              go_roundw
              case rel => exact ⟨j + 1, by omega, by go_num, HJ.out⟩
              case measure => simp [intOf]; omega
            · rw [if_neg ejq] at hlv
              have bq : ((j : Int) == (q : Int)) = false := by rw [beq_eq_false_iff_ne]; omega
              have bq2 : ((j : Int) != (q : Int)) = true := by rw [bne_iff_ne]; omega
              have Hhlv := Lib.hid hlv
              have Hhrd := Lib.hid hrd
              have Hhsl := Lib.hid hsl
              clear hlv hrd hsl
              clear hg hJ ejq
              go_wp2_with fail
              refine (live_any _ _ k _ Hhsl.out _ _ Hhrd.out).mono ?_
              rintro e w' ⟨rfl, rfl⟩
              rw [Hhlv.out]
              dsimp only [duoV]
              go_wp2
              go_roundw
              case rel => exact ⟨j + 1, by omega, by go_num, HJ.out⟩
              case measure => simp [intOf]; omega
          · obtain rfl : k = j := by omega
            obtain ⟨x, rfl⟩ : ∃ m : Nat, x = m := ⟨x.toNat, by omega⟩
            have hnx := next_ok q x (by omega) (by omega)
            have hln := live_next HX.out (by omega) (by omega) (by omega)
            obtain ⟨gl', egl, hcl⟩ := row_cell hJ.pull1 (ints_get (hands_at HhG.out HX.out))
            cases egl
            have HJ := Lib.hid hJ
            have Hhnx := Lib.hid hnx
            have Hhln := Lib.hid hln
            have Hhrd := Lib.hid hrd
            have Hhsl := Lib.hid hsl
            clear hnx hln hrd hsl
            clear hJ
            go_wp2_with fail
            refine (Hhnx.out _).mono ?_
            rintro e w' ⟨rfl, rfl⟩
            dsimp only [duoV]
            go_wp2_with fail
            refine (live_any _ _ k _ Hhsl.out _ _ Hhrd.out).mono ?_
            rintro e w' ⟨rfl, rfl⟩
            rw [Hhln.out]
            dsimp only [duoV]
            go_wp2
            go_ret
            exact ⟨rfl, HJ.out.below⟩
end Go.Proofs.Ytlcdgjfofidkhaa
