/- The reference's Give answers as the program's. No condition. -/
import Derived.Test.YtcdeimmjhfimjaaRb
namespace Go.Proofs.Ytcdeimmjhfimjaa
open Go.RowKit Go.Proofs.Ytcdeimmjhfimjaa.Pp
set_option linter.unusedVariables false

theorem clearRun_zero (f : Nat → Pg) (s : Nat) : clearRun f s 0 = f := by funext j; unfold clearRun; rw [if_neg (by omega)]
theorem clearRun_succ (f : Nat → Pg) (s k : Nat) : upd (clearRun f s k) (s + k) ⟨0, 0, 0⟩ = clearRun f s (k + 1) := by
  funext j
  unfold upd clearRun
  by_cases e : j = s + k
  · rw [if_pos e, if_pos (by omega)]; rfl
  · rw [if_neg e]
    by_cases e2 : s ≤ j ∧ j < s + k
    · rw [if_pos e2, if_pos (by omega)]
    · rw [if_neg e2, if_neg (by omega)]
def RGave (w : World) (rg g n cap : Nat) (f : Nat → Pg) (i : Int) (e : Ending) (w' : World) : Prop :=
  e = .returned (.int .i64 (giveE n f i)) ∧ RTab w' rg g n cap (giveF n f i) ∧ Fr [g] w w'

set_option maxHeartbeats 800000 in
theorem rgive_yes {w : World} {rg g n cap : Nat} {f : Nat → Pg} (h : RTab w rg g n cap f) {i : Nat} (hg : Givable n f i) :
    Calls Try.prog 41 #[.pointer (some ⟨rg, 0, none⟩), .int .i64 (i : Int)] w (RGave w rg g n cap f i) := by
  obtain ⟨s1, s16, sn, _, smx⟩ := h.wf.span hg
  have hi : i < n := by have := hg.2.1; omega
  have hk0 := hg.2.2.1
  have hk3 := hg.2.2.2
  rw [Int.toNat_natCast] at *
  obtain ⟨m, hm⟩ : ∃ m, m = sizeAt f i := ⟨_, rfl⟩
  rw [← hm] at s1 s16 sn smx
  have hkind : (((f i).k == 2) = true ∧ (f i).r = (m : Int)) ∨ (((f i).k == 2) = false ∧ m = 1) := by
    by_cases h2 : (f i).k = 2
    · have hr1 := ((h.wf i hi).two h2).1
      exact .inl ⟨by simp [h2], by omega⟩
    · refine .inr ⟨by simp [h2], ?_⟩
      rw [hm]; unfold sizeAt; rw [if_neg h2]
  have hgf : giveF n f i = clearRun f i m := by rw [giveF_yes hg, Int.toNat_natCast, hm]
  have hwf := wf_give h.wf (i : Int)
  rw [hgf] at hwf
  have c0 := h.c0
  have h4 := h.n4
  have hne := h.ne
  have pk := h.pg.k hi
  have pr := h.pg.r hi
  have q1 : ((f i).k == 0) = false := by simp [hk0]
  have q2 : ((f i).k == 3) = false := by simp [hk3]
  have i0 : (0 : Int) ≤ i := by omega
  have i1 : (i : Int) < n := by omega
  have H0 := Lib.hid h
  have HG := Lib.hid (giveE_yes hg)
  have HGF := Lib.hid hgf
  have HWF := Lib.hid hwf
  have HK := Lib.hid hkind
  clear h hg hgf hwf hkind hk0 hk3 hm smx
  go_enter Try.func41, Try.ntmps41
  go_upto_if 48 with (fail)
  go_cut [5] (fun v wc => v = .int .i64 (m : Int) ∧ Hid (wc = w))
  case first =>
    rcases HK.out with ⟨h2, h3⟩ | ⟨h2, h3⟩
    · rw [h3] at pr
      clear h3
      go_wp2_with fail
      go_meet
      exact ⟨rfl, rfl⟩
    · subst h3
      go_wp2_with fail
      go_meet
      exact ⟨rfl, rfl⟩
  case rest =>
    obtain ⟨rfl, hwc⟩ := hcut
    obtain rfl := hwc.out
    clear hwc pk pr c0 q1 q2
    go_wp2_with fail
    go_loopw [6] (fun x wr => ∃ j : Nat, j ≤ m ∧ x = .int .i64 (j : Int) ∧ Hid (wr.heap[rg]? = some (.cells #[.slice (some ⟨g, 0, none⟩) n cap] 62 (0, 0))) ∧ Hid (PgAt wr g n cap (clearRun f i j)) ∧ Hid (Fr [g] wc wr)) (fun x _ => m - (intOf x).toNat)
    case atStart => exact ⟨0, by omega, rfl, H0.out.blk, by rw [clearRun_zero]; exact H0.out.pg, Fr.refl _ _⟩
    case round =>
      obtain ⟨j, hj, rfl, hB, hP, hfr⟩ := hrel
      have c0 : wr.cell? ⟨rg, 0, none⟩ = some (.slice (some ⟨g, 0, none⟩) n cap) := heap_cell hB.out 0
      by_cases hlt : j < m
      · have hij : i + j < n := by omega
        have p0 := hP.out.k hij
        have p1 := hP.out.c hij
        have p2 := hP.out.r hij
        have f0 := hP.out.frozen ((i + j) * 3)
        have f1 := hP.out.frozen ((i + j) * 3 + 1)
        have f2 := hP.out.frozen ((i + j) * 3 + 2)
        go_wp2_with fail
        go_roundw
        case rel => exact ⟨j + 1, by omega, by go_num, blk_put3 hne hB.out, by rw [← clearRun_succ]; exact hP.out.set hij 0 0 0, hfr.out.put3 (by simp)⟩
        case measure => simp [intOf]; omega
      · have e : j = m := by omega
        subst e
        go_wp2_with fail
        go_ret
        exact ⟨ret_int HG.out.symm, by rw [HGF.out]; exact ⟨hB.out, hP.out, HWF.out, H0.out.n1, h4⟩, hfr.out⟩

theorem rgive_no {w : World} {rg g n cap : Nat} {f : Nat → Pg} (h : RTab w rg g n cap f) {i : Int} (hg : ¬ Givable n f i) :
    Calls Try.prog 41 #[.pointer (some ⟨rg, 0, none⟩), .int .i64 i] w fun e w' => e = .returned (.int .i64 1) ∧ w = w' := by
  have c0 := h.c0
  have h4 := h.n4
  by_cases h0 : i < 0
  · go_enter Try.func41, Try.ntmps41
    go_wp2
    go_ret
    exact ⟨rfl, rfl⟩
  · by_cases h1 : (n : Int) ≤ i
    · go_enter Try.func41, Try.ntmps41
      go_wp2
      go_ret
      exact ⟨rfl, rfl⟩
    · obtain ⟨j, rfl⟩ := Int.eq_ofNat_of_zero_le (show 0 ≤ i by omega)
      have hj : j < n := by omega
      have pk := h.pg.k hj
      have i0 : (0 : Int) ≤ j := by omega
      have i1 : (j : Int) < n := by omega
      have d : ((f j).k == 0) = true ∨ (((f j).k == 0) = false ∧ ((f j).k == 3) = true) := by
        by_cases e0 : (f j).k = 0
        · exact .inl (by simp [e0])
        · refine .inr ⟨by simp [e0], ?_⟩
          have : (f j).k = 3 := by
            by_cases e3 : (f j).k = 3
            · exact e3
            · exact absurd ⟨i0, i1, by rw [Int.toNat_natCast]; exact e0, by rw [Int.toNat_natCast]; exact e3⟩ hg
          simp [this]
      clear hg h0 h1
      rcases d with d | ⟨d, d2⟩
      all_goals
        go_enter Try.func41, Try.ntmps41
        go_wp2
        go_ret
        exact ⟨rfl, rfl⟩
theorem rgive_any {w : World} {rg g n cap : Nat} {f : Nat → Pg} (h : RTab w rg g n cap f) (i : Int) :
    Calls Try.prog 41 #[.pointer (some ⟨rg, 0, none⟩), .int .i64 i] w (RGave w rg g n cap f i) := by
  by_cases hg : Givable n f i
  · obtain ⟨j, rfl⟩ := Int.eq_ofNat_of_zero_le hg.1
    exact rgive_yes h hg
  · refine (rgive_no h hg).mono ?_
    rintro e w' ⟨rfl, rfl⟩
    exact ⟨ret_int (giveE_no hg).symm, by rw [giveF_no hg]; exact h, Fr.refl _ _⟩
end Go.Proofs.Ytcdeimmjhfimjaa
