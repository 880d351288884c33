/- PagesFills, walked. No condition, but that what comes in is an int. -/
import Derived.Test.YtcdeimmjhfimjaaWi
namespace Go.Proofs.Ytcdeimmjhfimjaa
open Go.RowKit Go.Proofs.Ytcdeimmjhfimjaa.Pp
set_option linter.unusedVariables false

theorem cnt_zero {f : Nat → Pg} : ∀ {n : Nat}, (∀ j, j < n → isz (f j) = false) → cnt f n = 0
  | 0, _ => rfl
  | n + 1, h => by
    unfold cnt
    rw [cnt_zero fun j hj => h j (by omega), h n (by omega)]
    rfl
theorem first_busy {n k : Nat} {f : Nat → Pg} (h : ∀ j, j < n → isz (f j) = false) (hk : 1 ≤ k) : firstRun n f k = none := first_full (l := n) h (Nat.le_refl _) hk
theorem first_only {n i : Nat} {f : Nat → Pg} (hi : i < n) (h : ∀ j, j < n → j ≠ i → isz (f j) = false) (hz : isz (f i) = true) : firstRun n f 1 = some i :=
  first_low (fun j hj => h j (by omega) (by omega)) hi hz
/-- What is known when k pages are taken. -/
structure Filled (n k : Nat) (f : Nat → Pg) : Prop where
  one : ∀ j, j < k → (f j).k = 1
  rest : ∀ j, k ≤ j → j < n → isz (f j) = true
theorem Filled.zero (n : Nat) : Filled n 0 fun _ => fr0 := ⟨fun j hj => by omega, fun j _ _ => isz_fr0⟩
theorem Filled.first {n k : Nat} {f : Nat → Pg} (h : Filled n k f) (hk : k < n) : firstRun n f 1 = some k :=
  first_low (fun j hj => isz_not (by rw [h.one j hj]; decide)) hk (h.rest k (Nat.le_refl _) hk)
theorem Filled.succ {n k : Nat} {f : Nat → Pg} (h : Filled n k f) (hk : k < n) (c : Int) : Filled n (k + 1) (takeC n f c) := by
  rw [takeC_some (h.first hk)]
  refine ⟨fun j hj => ?_, fun j h0 h1 => ?_⟩
  · by_cases e : j = k
    · subst e; rw [upd_at]
    · rw [upd_ne e]; exact h.one j (by omega)
  · rw [upd_ne (by omega)]; exact h.rest j (by omega) h1
theorem Filled.busy {n : Nat} {f : Nat → Pg} (h : Filled n n f) : ∀ j, j < n → isz (f j) = false := fun j hj => isz_not (by rw [h.one j hj]; decide)
theorem Filled.givable {n i : Nat} {f : Nat → Pg} (h : Filled n n f) (hi : i < n) : Givable n f i := ⟨by omega, by omega, by rw [Int.toNat_natCast, h.one i hi]; decide, by rw [Int.toNat_natCast, h.one i hi]; decide⟩
theorem Filled.gave {n i : Nat} {f : Nat → Pg} (h : Filled n n f) (hi : i < n) : giveF n f i = clearRun f i 1 := by
  rw [giveF_yes (h.givable hi), Int.toNat_natCast]
  unfold sizeAt
  rw [if_neg (by rw [h.one i hi]; decide)]
theorem Filled.again {n i : Nat} {f : Nat → Pg} (h : Filled n n f) (hi : i < n) : firstRun n (clearRun f i 1) 1 = some i :=
  first_only hi (fun j hj e => by rw [clearRun_out (by omega)]; exact h.busy j hj) (by rw [clearRun_in (Nat.le_refl _) (by omega)]; rfl)
theorem Filled.last {n i : Nat} {f : Nat → Pg} (h : Filled n n f) (hi : i < n) : cnt (putRun (clearRun f i 1) i 1) n = 0 := by
  refine cnt_zero fun j hj => ?_
  by_cases e : j = i
  · subst e; rw [putRun_head]; rfl
  · rw [putRun_out (by omega) (by omega), clearRun_out (by omega)]; exact h.busy j hj

theorem and7 (k : Nat) (hk : k ≤ 4096) : 0 ≤ bits .and .i64 (k : Int) 7 ∧ bits .and .i64 (k : Int) 7 < 8 := by
  have e : bits .and .i64 (k : Int) 7 = IntKind.i64.wrap (((BitVec.ofInt 64 (k : Int)) &&& (BitVec.ofInt 64 7)).toNat : Int) := rfl
  have h7 : (BitVec.ofInt 64 7).toNat = 7 := rfl
  have hl : ((BitVec.ofInt 64 (k : Int)) &&& (BitVec.ofInt 64 7)).toNat ≤ 7 := by
    rw [BitVec.toNat_and, h7]
    exact Nat.and_le_right
  rw [e, IntWalk.i64_in _ (by omega)]
  omega

set_option maxHeartbeats 800000 in
theorem fills_walk (a b : Int) (ha0 : -9223372036854775808 ≤ a) (ha1 : a ≤ 9223372036854775807) (hb0 : -9223372036854775808 ≤ b) (hb1 : b ≤ 9223372036854775807) (w : World) :
    Calls Try.prog 4 #[.int .i64 a, .int .i64 b] w fun e w' => e = .returned (.bool true) ∧ Below w.heap.size w w' := by
  have hw := within_bd a (n := 4096) (by omega)
  obtain ⟨N, hN⟩ : ∃ N : Nat, 1 + withinV a 4096 = (N : Int) := ⟨(1 + withinV a 4096).toNat, by omega⟩
  have hw0 := hw.1
  have hw1 := hw.2
  have hN1 : 1 ≤ N := by omega
  have hN4 : N ≤ 4096 := by omega
  have HN := Lib.hid hN
  have HW := Lib.hid (within_any a 4096 ha0 ha1 (by omega))
  clear hN hw
  go_enter Try.func4, Try.ntmps4
  go_wp2_with fail
  refine (HW.out _).mono ?_
  rintro e w0 ⟨rfl, rfl⟩
  go_wp2_with fail
  rw [HN.out]
  clear hw0 hw1
  refine (new_any N hN1 hN4 _).mono ?_
  rintro e w1 ⟨tg, g, rfl, hT, ht, hg, hB⟩
  have HT := Lib.hid hT
  have HB := Lib.hid hB
  clear hT hB
  go_wp2_with fail
  refine (alive_any _).mono ?_
  rintro e w2 ⟨rfl, hB⟩
  have HT2 := Lib.hid (HT.out.below hB)
  have HB2 := Lib.hid (bthen HB.out hB)
  clear hB
  go_wp2_with fail
  go_loopw [7, 8, 9] (fun i p q wr => ∃ (k : Nat) (f : Nat → Pg), k ≤ N ∧ i = .int .i64 (k : Int) ∧ Hid (Filled N k f) ∧ Hid (Tab wr tg g N N f) ∧ Below w.heap.size w wr) (fun i _ _ _ => N - (intOf i).toNat)
  case atStart => exact ⟨0, _, by omega, rfl, Filled.zero N, HT2.out, HB2.out⟩
  case round =>
    obtain ⟨k, f, hk, rfl, hF, hTa, hbw⟩ := hrel
    by_cases hlt : k < N
    · have hcl := and7 k (by omega)
      have HC := Lib.hid (takeClass_any hTa.out hcl.1 hcl.2)
      clear hcl
      go_wp2_with fail
      refine HC.out.mono ?_
      rintro e w3 ⟨rfl, hT3, hF3⟩
      rw [takeV_some (hF.out.first hlt), takeE_some (hF.out.first hlt)]
      have HT3 := Lib.hid hT3
      have HB3 := Lib.hid (hF3.onto hbw (two_ge ht hg))
      clear hT3 hF3
      go_wp2_with fail
      go_roundw
      case rel => exact ⟨k + 1, _, by omega, by go_num, hF.out.succ hlt _, HT3.out, HB3.out⟩
      case measure => simp [intOf]; omega
    · have e : k = N := by omega
      subst e
      have hwb := within_bd b (n := (k : Int)) (by omega)
      obtain ⟨i, hi⟩ : ∃ i : Nat, withinV b k = (i : Int) := ⟨(withinV b k).toNat, by omega⟩
      have hik : i < k := by omega
      have HI := Lib.hid hi
      have HW2 := Lib.hid (within_any b k hb0 hb1 (by omega))
      have HC1 := Lib.hid (takeClass_any (c := 0) hTa.out (by omega) (by omega))
      have HN1 := Lib.hid (first_busy (k := 1) hF.out.busy (Nat.le_refl _))
      clear hwb hi
      go_wp2_with fail
      refine HC1.out.mono ?_
      rintro e w3 ⟨rfl, hT, hf⟩
      rw [takeV_none HN1.out, takeE_none HN1.out]
      rw [takeC_none HN1.out] at hT
      have HC2 := Lib.hid (takeRun_any (k := 1) hT (by omega) (by omega))
      have HB3 := Lib.hid (hf.onto hbw (two_ge ht hg))
      clear hT hf
      go_wp2_with fail
      refine HC2.out.mono ?_
      rintro e w4 ⟨rfl, hT, hf⟩
      rw [takeV_none HN1.out, takeE_none HN1.out]
      rw [takeR_none HN1.out] at hT
      have HT4 := Lib.hid hT
      have HB4 := Lib.hid (hf.onto HB3.out (two_ge ht hg))
      clear hT hf
      go_wp2_with fail
      refine (HW2.out _).mono ?_
      rintro e w5 ⟨rfl, rfl⟩
      go_wp2_with fail
      obtain ⟨l, hT⟩ := HT4.out
      have hc := count_any hT
      rw [cnt_zero hF.out.busy] at hc
      have HC3 := Lib.hid hc
      have hgv := give_any HT4.out (i : Int)
      have HGV := Lib.hid hgv
      clear hT hc hgv
      refine HC3.out.mono ?_
      rintro e w5 ⟨rfl, rfl⟩
      go_wp2_with fail
      rw [HI.out]
      refine HGV.out.mono ?_
      rintro e w6 ⟨rfl, hT, hf⟩
      rw [giveE_yes (hF.out.givable hik)]
      rw [hF.out.gave hik] at hT
      have HC4 := Lib.hid (takeRun_any (k := 1) hT (by omega) (by omega))
      have HB6 := Lib.hid (hf.onto HB4.out (two_ge ht hg))
      have HA := Lib.hid (hF.out.again hik)
      clear hT hf
      go_wp2_with fail
      refine HC4.out.mono ?_
      rintro e w7 ⟨rfl, hT, hf⟩
      rw [takeV_some HA.out, takeE_some HA.out]
      rw [takeR_some HA.out] at hT
      have HB7 := Lib.hid (hf.onto HB6.out (two_ge ht hg))
      obtain ⟨l7, hT7⟩ := hT
      have hc := count_any hT7
      rw [hF.out.last hik] at hc
      have HC5 := Lib.hid hc
      clear hT7 hf hc
      go_wp2_with fail
      refine HC5.out.mono ?_
      rintro e w8 ⟨rfl, rfl⟩
      go_wp2_with fail
      go_ret
      exact ⟨rfl, HB7.out⟩
end Go.Proofs.Ytcdeimmjhfimjaa
