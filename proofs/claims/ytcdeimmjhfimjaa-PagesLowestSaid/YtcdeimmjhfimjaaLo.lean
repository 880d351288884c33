/- PagesLowest, walked. No condition, but that what comes in are ints. -/
import Derived.Test.YtcdeimmjhfimjaaGi
import Derived.Test.YtcdeimmjhfimjaaLp
namespace Go.Proofs.Ytcdeimmjhfimjaa
open Go.RowKit Go.Proofs.Ytcdeimmjhfimjaa.Pp
set_option linter.unusedVariables false

/-- How a bool tells that j pages from x on are free. -/
def AllFree (f : Nat → Pg) (x j : Nat) (b : Bool) : Prop := b = true ↔ ∀ q, q < j → isz (f (x + q)) = true
theorem AllFree.zero (f : Nat → Pg) (x : Nat) : AllFree f x 0 true := ⟨fun _ q hq => by omega, fun _ => rfl⟩
theorem AllFree.next {f : Nat → Pg} {x j : Nat} (h : AllFree f x j true) : AllFree f x (j + 1) (isz (f (x + j))) := by
  refine ⟨fun hz q hq => ?_, fun hq => hq j (by omega)⟩
  by_cases e : q = j
  · subst e; exact hz
  · exact h.1 rfl q (by omega)
theorem AllFree.no {f : Nat → Pg} {x j : Nat} (h : AllFree f x j false) : AllFree f x (j + 1) false := by
  refine ⟨fun hz => absurd hz (by decide), fun hq => h.2 fun q hlt => hq q (by omega)⟩
theorem AllFree.run {f : Nat → Pg} {x k n : Nat} {b : Bool} (h : AllFree f x k b) (hx : x + k ≤ n) : b = true ↔ RunAt n f k x := by
  refine Iff.trans h ?_
  refine ⟨fun hq => ⟨hx, fun j h0 h1 => ?_⟩, fun hr q hq => hr.2 _ (by omega) (by omega)⟩
  have := hq (j - x) (by omega)
  rwa [show x + (j - x) = j by omega] at this

/-- What the taking of the law leaves. -/
structure After (N : Nat) (f f' : Nat → Pg) (K : Nat) (c l : Int) : Prop where
  none : firstRun N f K = Option.none → f' = f
  some : ∀ s, firstRun N f K = Option.some s → Took N f f' K s ∧ ((l.tmod 2 = 0 ∧ K = 1 ∧ f' s = ⟨1, withinV c 8, 0⟩) ∨ (¬ l.tmod 2 = 0 ∧ f' s = ⟨2, 0, K⟩ ∧ ∀ j, s < j → j < s + K → f' j = ⟨3, 0, 0⟩))

set_option maxRecDepth 100000 in
set_option maxHeartbeats 1600000 in
theorem lowest_walk (a : Int) (A : Option Addr) (len cap : Nat) (c l : Int) (ha0 : -9223372036854775808 ≤ a) (ha1 : a ≤ 9223372036854775807) (hc0 : -9223372036854775808 ≤ c) (hc1 : c ≤ 9223372036854775807)
    (hl0 : -9223372036854775808 ≤ l) (hl1 : l ≤ 9223372036854775807) (w : World) (hcap : len ≤ cap) (hmax : cap ≤ maxLen) (hr : IntRows w A len 3)
    (N : Nat) (hN : 1 + withinV a 60 = (N : Int)) (K : Nat) (hK1 : 1 ≤ K) (hK16 : K ≤ 16) (hK : (l.tmod 2 = 0 ∧ K = 1) ∨ (¬ l.tmod 2 = 0 ∧ 1 + withinV l 16 = (K : Int))) :
    Calls Try.prog 5 #[.int .i64 a, .slice A len cap, .int .i64 c, .int .i64 l] w fun e w' => e = .returned (.bool true) ∧ Below w.heap.size w w' := by
  have hw := within_bd a (n := 60) (by omega)
  have hw0 := hw.1
  have hw1 := hw.2
  have hN1 : 1 ≤ N := by omega
  have hN4 : N ≤ 60 := by omega
  have HN := Lib.hid hN
  have HW := Lib.hid (within_any a 60 ha0 ha1 (by omega))
  have HBu := Lib.hid (busy_any N hN1 (by omega) A len cap w hcap hmax hr)
  have HWL := Lib.hid (within_any l 16 hl0 hl1 (by omega))
  have HWC := Lib.hid (within_any c 8 hc0 hc1 (by omega))
  have HK := Lib.hid hK
  clear hN hw hr hK
  go_enter Try.func5, Try.ntmps5
  go_wp2_with fail
  refine (HW.out _).mono ?_
  rintro e w0 ⟨rfl, rfl⟩
  go_wp2_with fail
  rw [HN.out]
  clear hw0 hw1
  refine HBu.out.mono ?_
  rintro e w1 ⟨tg, g, f, rfl, hT, ht, hg, hB⟩
  have HT := Lib.hid hT
  have HB := Lib.hid hB
  clear hT hB
  go_wp2_with fail
  refine (alive_any _).mono ?_
  rintro e w2 ⟨rfl, hB⟩
  have HT2 := Lib.hid (HT.out.below hB)
  have HB2 := Lib.hid (bthen HB.out hB)
  clear hB
  go_upto_if 41 with (fail)
  go_cut [10] (fun v wc => v = .int .i64 (K : Int) ∧ Hid (wc = w2))
  case first =>
    rcases HK.out with ⟨h1, h2⟩ | ⟨h1, h2⟩
    · have q : (l.tmod 2 != 0) = false := by simp [h1]
      subst h2
      clear h1
      go_wp2_with fail
      go_meet
      exact ⟨rfl, rfl⟩
    · have q : (l.tmod 2 != 0) = true := by simp [h1]
      have H2 := Lib.hid h2
      have hwl := within_bd l (n := 16) (by omega)
      have hwl0 := hwl.1
      have hwl1 := hwl.2
      clear h1 h2 hwl
      go_wp2_with fail
      refine (HWL.out _).mono ?_
      rintro e w3 ⟨rfl, rfl⟩
      go_wp2_with fail
      rw [H2.out]
      go_meet
      exact ⟨rfl, rfl⟩
  case rest =>
    obtain ⟨rfl, hwc⟩ := hcut
    obtain rfl := hwc.out
    clear hwc
    go_wp2_with fail
    go_loopw [11, 12, 13, 14] (fun v i _ _ wr => ∃ (x y : Int), x ≤ (N : Int) - K ∧ -1000 ≤ x ∧ i = .int .i64 x ∧ v = .int .i64 y ∧ Hid (Want N f K x y) ∧ Hid (Tab wr tg g N N f) ∧ Hid (Below w.heap.size w wr)) (fun _ i _ _ _ => (intOf i + 1).toNat)
    case atStart => exact ⟨(N : Int) - K, -1, by omega, by omega, by go_num, rfl, Want.start _ _ _, HT2.out, HB2.out⟩
    case round =>
      obtain ⟨x, y, hx, hx0, rfl, rfl, hW, hTa, hbw⟩ := hrel
      by_cases hpos : 0 ≤ x
      · obtain ⟨x, rfl⟩ := Int.eq_ofNat_of_zero_le hpos
        have hxk : x + K ≤ N := by omega
        obtain ⟨wo, rfl⟩ : ∃ wo : World, wo = wr := ⟨_, rfl⟩
        clear hpos hx
        go_wp2_with fail
        go_loopw [13, 14] (fun b i wx => ∃ (j : Nat) (bb : Bool), j ≤ K ∧ i = .int .i64 (j : Int) ∧ b = .bool bb ∧ Hid (AllFree f x j bb) ∧ Hid (Tab wx tg g N N f) ∧ Hid (Below w.heap.size w wx)) (fun _ i _ => K - (intOf i).toNat)
        case atStart => exact ⟨0, true, by omega, rfl, rfl, AllFree.zero f x, hTa.out, hbw.out⟩
        case round =>
          obtain ⟨j, bb, hj, rfl, rfl, hA, hTx, hbx⟩ := hrel
          by_cases hlt : j < K
          · cases bb with
            | true =>
              obtain ⟨lx, hTL⟩ := hTx.out
              have hc := isFree_any hTL (x + j) (by omega)
              rw [Int.natCast_add] at hc
              have HC := Lib.hid hc
              clear hTL hc
              go_wp2_with fail
              refine HC.out.mono ?_
              rintro e w3 ⟨rfl, hB⟩
              have HT3 := Lib.hid (hTx.out.below hB)
              have HB3 := Lib.hid (bthen hbx.out hB)
              clear hB
              go_wp2_with fail
              go_roundw
              case rel => exact ⟨j + 1, _, by omega, by go_num, rfl, hA.out.next, HT3.out, HB3.out⟩
              case measure => simp [intOf]; omega
            | false =>
              go_wp2_with fail
              go_roundw
              case rel => exact ⟨j + 1, false, by omega, by go_num, rfl, hA.out.no, hTx.out, hbx.out⟩
              case measure => simp [intOf]; omega
          · have e : j = K := by omega
            subst e
            have hrun := hA.out.run hxk
            have HRUN := Lib.hid hrun
            clear hrun
            cases bb with
            | true =>
              go_wp2_with fail
              go_roundw
              case rel => exact ⟨(x : Int) - 1, x, by omega, by omega, by go_num, rfl, Want.hit (HRUN.out.1 rfl), hTx.out, hbx.out⟩
              case measure => simp [intOf]
            | false =>
              go_wp2_with fail
              go_roundw
              case rel => exact ⟨(x : Int) - 1, y, by omega, by omega, by go_num, rfl, hW.out.miss (fun hr => absurd (HRUN.out.2 hr) (by decide)), hTx.out, hbx.out⟩
              case measure => simp [intOf]
      · have hneg : x < 0 := by omega
        have hwant := hW.out.done hneg
        have HWN := Lib.hid hwant
        clear hpos hwant
        go_wp2_with fail
        obtain ⟨lx, hTL⟩ := hTa.out
        refine (all_any hTL).mono ?_
        rintro e w3 ⟨g1, cap1, rfl, hP, hg1, hB⟩
        have hl3 := (Tab.lt ⟨lx, hTL⟩)
        have hn1 : tg ≠ g1 := by rw [hg1]; omega
        have hn2 : g ≠ g1 := by rw [hg1]; omega
        have HT3 := Lib.hid (hTL.below hB)
        have HP3 := Lib.hid hP
        have HB3 := Lib.hid (bthen hbw.out hB)
        have hcn := cnt_le f N
        clear hTL hP hB hg1 hl3
        go_wp2_with fail
        refine (count_any HT3.out).mono ?_
        rintro e w4 ⟨rfl, rfl⟩
        have HNG := Lib.hid (show g1 ∉ [tg, g] from not_two hn1.symm hn2.symm)
        clear hn1 hn2
        go_upto_if 73 with (fail)
        go_cut [17, 18] (fun vp ve wc => ∃ f' : Nat → Pg, vp = .int .i64 (takeV N f K) ∧ ve = .int .i64 (takeE N f K) ∧ Hid (Tab wc tg g N N f') ∧ Hid (PgAt wc g1 N cap1 f) ∧ Hid (Below w.heap.size w wc) ∧ Hid (After N f f' K c l))
        case first =>
          rcases HK.out with ⟨h1, h2⟩ | ⟨h1, h2⟩
          · have q : (l.tmod 2 != 0) = false := by simp [h1]
            have hcb := within_bd c (n := 8) (by omega)
            subst h2
            have HTC := Lib.hid (takeClass_any ⟨lx, HT3.out⟩ hcb.1 hcb.2)
            have HAF : Hid (After N f (takeC N f (withinV c 8)) 1 c l) := ⟨fun h => takeC_none h, fun s hs => ⟨(Took.cls hs _).1, .inl ⟨h1, rfl, (Took.cls hs _).2⟩⟩⟩
            clear h1 hcb
            go_wp2_with fail
            refine (HWC.out _).mono ?_
            rintro e w5 ⟨rfl, rfl⟩
            go_wp2_with fail
            refine HTC.out.mono ?_
            rintro e w5 ⟨rfl, hT5, hF5⟩
            have HT5 := Lib.hid hT5
            have HF5 := Lib.hid hF5
            clear hT5 hF5
            go_wp2_with fail
            go_meet
            exact ⟨_, rfl, rfl, HT5.out, HP3.out.fr HF5.out HNG.out, HF5.out.onto HB3.out (two_ge ht hg), HAF.out⟩
          · have q : (l.tmod 2 != 0) = true := by simp [h1]
            have HTR := Lib.hid (takeRun_any ⟨lx, HT3.out⟩ hK1 hK16)
            have HAF : Hid (After N f (takeR N f K) K c l) := ⟨fun h => takeR_none h, fun s hs => ⟨(Took.row hK1 hs).1, .inr ⟨h1, (Took.row hK1 hs).2⟩⟩⟩
            clear h1 h2
            go_wp2_with fail
            refine HTR.out.mono ?_
            rintro e w5 ⟨rfl, hT5, hF5⟩
            have HT5 := Lib.hid hT5
            have HF5 := Lib.hid hF5
            clear hT5 hF5
            go_wp2_with fail
            go_meet
            exact ⟨_, rfl, rfl, HT5.out, HP3.out.fr HF5.out HNG.out, HF5.out.onto HB3.out (two_ge ht hg), HAF.out⟩
        case rest =>
          obtain ⟨f', rfl, rfl, hT, hP, hB, hAf⟩ := hcut
          rcases HWN.out with ⟨rfl, hf⟩ | ⟨s, rfl, hf⟩
          · rw [takeV_none hf, takeE_none hf]
            have hff := hAf.out.none hf
            rw [hff] at hT
            clear hf hff
            obtain ⟨ly, hTL⟩ := hT.out
            have HAL := Lib.hid (all_any hTL)
            clear hTL
            go_wp2_with fail
            refine HAL.out.mono ?_
            rintro e w6 ⟨g2, cap2, rfl, hP2, hg2, hB6⟩
            have HS := Lib.hid (same_any hP2 (hP.out.below hB6))
            have HB6 := Lib.hid (bthen hB.out hB6)
            clear hP2 hg2 hB6
            go_wp2_with fail
            refine HS.out.mono ?_
            rintro e w7 ⟨rfl, hB7⟩
            have HB7 := Lib.hid (bthen HB6.out hB7)
            clear hB7
            go_wp2_with fail
            go_ret
            exact ⟨rfl, HB7.out⟩
          · rw [takeV_some hf, takeE_some hf]
            obtain ⟨hTK, hKind⟩ := hAf.out.some s hf
            have hsk := hTK.run.1
            have hct : ((cnt f' N : Nat) : Int) = (cnt f N : Nat) - (K : Nat) := by have := hTK.cnt; omega
            have hkc : K ≤ cnt f N := by have := hTK.cnt; omega
            obtain ⟨ly, hTL⟩ := hT.out
            have hcf := count_any hTL
            rw [hct] at hcf
            have HCF := Lib.hid hcf
            have HTK := Lib.hid hTK
            have HKI := Lib.hid hKind
            clear hf hTK hKind hct hTL hcf
            go_wp2_with fail
            refine HCF.out.mono ?_
            rintro e w6 ⟨rfl, rfl⟩
            go_wp2_with fail
            go_loopw [23, 24, 25, 26] (fun i _ _ _ wx => ∃ j : Nat, j ≤ N ∧ i = .int .i64 (j : Int) ∧ Hid (Tab wx tg g N N f') ∧ Hid (PgAt wx g1 N cap1 f) ∧ Hid (Below w.heap.size w wx)) (fun i _ _ _ _ => N - (intOf i).toNat)
            case atStart => exact ⟨0, by omega, rfl, hT.out, hP.out, hB.out⟩
            case round =>
              clear hT hP hB
              obtain ⟨j, hj, rfl, hT, hP, hB⟩ := hrel
              by_cases hlt : j < N
              · obtain ⟨lz, hTL⟩ := hT.out
                have HST := Lib.hid (state_in hTL j hlt)
                clear hTL
                go_wp2_with fail
                refine HST.out.mono ?_
                rintro e w7 ⟨rfl, hB7⟩
                have hP7 := hP.out.below hB7
                have a0 := hP7.k hlt
                have a1 := hP7.c hlt
                have a2 := hP7.r hlt
                have lt7 := hP7.lt
                have HT7 := Lib.hid (hT.out.below hB7)
                have HP7 := Lib.hid hP7
                have HB7 := Lib.hid (bthen hB.out hB7)
                have j0 : (0 : Int) ≤ j := by omega
                have j1 : (j : Int) < N := by omega
                clear hP7 hB7
                by_cases hout : j < s ∨ s + K ≤ j
                · have ej := HTK.out.out j hout
                  rw [ej]
                  have d : (j : Int) < s ∨ ((s : Int) ≤ j ∧ (s : Int) + K ≤ j) := by omega
                  clear ej hout
                  rcases d with d | ⟨d, d2⟩
                  all_goals
                    go_wp2_with fail
                    go_quiet (fail)
                    go_wp2_with fail
                    go_roundw
                    case rel => exact ⟨j + 1, by omega, by go_num, (HT7.out.alloc _).below (below_drewN (Below.refl _ _) _), (HP7.out.alloc _).drewN _, below_drewN (HB7.out.alloc HB7.out.size _) _⟩
                    case measure => simp [intOf]; omega
                · have d1 : (s : Int) ≤ j := by omega
                  have d2 : (j : Int) < (s : Int) + K := by omega
                  rcases HKI.out with ⟨h1, h2, h3⟩ | ⟨h1, h2, h3⟩
                  · have ej : j = s := by omega
                    subst ej
                    rw [h3]
                    have q : (l.tmod 2 == 0) = true := by simp [h1]
                    have HWQ : Hid (∀ w, Calls Try.prog 14 #[.int .i64 c, .int .i64 8] w fun e w' => e = .returned (.int .i64 (withinV c 8)) ∧ w' = w) := fun w => (HWC.out w).mono fun e w' ⟨a, b⟩ => ⟨a, b.symm⟩
                    clear h1 h2 h3 hout
                    go_wp2_with fail
                    go_quiet ((go_at_call 14; exact Calls.quiet_of_same (HWQ.out _)))
                    go_wp2_with fail
                    go_roundw
                    case rel => exact ⟨j + 1, by omega, by go_num, (HT7.out.alloc _).below (below_drewN (Below.refl _ _) _), (HP7.out.alloc _).drewN _, below_drewN (HB7.out.alloc HB7.out.size _) _⟩
                    case measure => simp [intOf]; omega
                  · have q : (l.tmod 2 == 0) = false := by simp [h1]
                    have q2 : (l.tmod 2 != 0) = true := by simp [h1]
                    by_cases ej : j = s
                    · subst ej
                      rw [h2]
                      clear h1 h2 h3 hout
                      go_wp2_with fail
                      go_quiet (fail)
                      go_wp2_with fail
                      go_roundw
                      case rel => exact ⟨j + 1, by omega, by go_num, (HT7.out.alloc _).below (below_drewN (Below.refl _ _) _), (HP7.out.alloc _).drewN _, below_drewN (HB7.out.alloc HB7.out.size _) _⟩
                      case measure => simp [intOf]; omega
                    · rw [h3 j (by omega) (by omega)]
                      have q3 : ((j : Int) == (s : Int)) = false := by simp; omega
                      clear h1 h2 h3 hout ej
                      go_wp2_with fail
                      go_quiet (fail)
                      go_wp2_with fail
                      go_roundw
                      case rel => exact ⟨j + 1, by omega, by go_num, (HT7.out.alloc _).below (below_drewN (Below.refl _ _) _), (HP7.out.alloc _).drewN _, below_drewN (HB7.out.alloc HB7.out.size _) _⟩
                      case measure => simp [intOf]; omega
              · go_wp2_with fail
                go_ret
                exact ⟨rfl, hB.out⟩
end Go.Proofs.Ytcdeimmjhfimjaa
