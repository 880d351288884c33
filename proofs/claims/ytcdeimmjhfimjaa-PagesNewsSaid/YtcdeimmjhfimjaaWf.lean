/- Give gives back a class's page, or a run by its first page. No condition. -/
import Derived.Test.YtcdeimmjhfimjaaWe
import Derived.Test.YtcdeimmjhfimjaaCl
namespace Go.Proofs.Ytcdeimmjhfimjaa
open Go.RowKit Go.Proofs.Ytcdeimmjhfimjaa.Pp
set_option linter.unusedVariables false

theorem give_out {w : World} {tg g n cap l : Nat} {f : Nat → Pg} (h : TabL w tg g n cap f l) {i : Int} (hi : i < 0 ∨ (n : Int) ≤ i) :
    Calls Try.prog 19 #[.pointer (some ⟨tg, 0, none⟩), .int .i64 i] w fun e w' => e = .returned (.int .i64 1) ∧ w = w' := by
  have c0 := h.blk.c0
  by_cases h0 : i < 0
  · go_enter Try.func19, Try.ntmps19
    go_wp2
    go_ret
    exact ⟨rfl, rfl⟩
  · have h1 : (n : Int) ≤ i := by omega
    go_enter Try.func19, Try.ntmps19
    go_wp2
    go_ret
    exact ⟨rfl, rfl⟩

theorem give_free {w : World} {tg g n cap l : Nat} {f : Nat → Pg} (h : TabL w tg g n cap f l) {i : Nat} (hi : i < n) (hz : isz (f i) = true) :
    Calls Try.prog 19 #[.pointer (some ⟨tg, 0, none⟩), .int .i64 (i : Int)] w fun e w' => e = .returned (.int .i64 1) ∧ w = w' := by
  have c0 := h.blk.c0
  have hc := free_any h i hi
  rw [hz] at hc
  have HC := Lib.hid hc
  have h0 : (0 : Int) ≤ i := by omega
  have h1 : (i : Int) < n := by omega
  clear hz hc
  go_enter Try.func19, Try.ntmps19
  go_wp2_with (go_at_call 33; refine HC.out.mono ?_; rintro e w3 ⟨rfl, rfl⟩)
  go_ret
  exact ⟨rfl, rfl⟩

theorem give_rest {w : World} {tg g n cap l : Nat} {f : Nat → Pg} (h : TabL w tg g n cap f l) {i : Nat} (hi : i < n) (hk : (f i).k = 3) :
    Calls Try.prog 19 #[.pointer (some ⟨tg, 0, none⟩), .int .i64 (i : Int)] w fun e w' => e = .returned (.int .i64 1) ∧ w = w' := by
  have c0 := h.blk.c0
  have pk := h.pg.k hi
  have hc := free_any h i hi
  rw [isz_not (by omega)] at hc
  rw [hk] at pk
  have HC := Lib.hid hc
  have h0 : (0 : Int) ≤ i := by omega
  have h1 : (i : Int) < n := by omega
  have hn4 := h.n4
  clear hk hc
  go_enter Try.func19, Try.ntmps19
  go_wp2_with (go_at_call 33; refine HC.out.mono ?_; rintro e w3 ⟨rfl, rfl⟩)
  go_ret
  exact ⟨rfl, rfl⟩

def Gave (w : World) (tg g n cap : Nat) (f : Nat → Pg) (i : Int) (e : Ending) (w' : World) : Prop :=
  e = .returned (.int .i64 (giveE n f i)) ∧ Tab w' tg g n cap (giveF n f i) ∧ Fr [tg, g] w w'

/-- What clear leaves: a world of which all is told that the rest of Give asks. -/
theorem cleared {w : World} {tg g n cap l i m : Nat} {f : Nat → Pg} (h : TabL w tg g n cap f l) (h1 : 0 < m) (hm : i + m ≤ n) :
    ∃ wc, (∀ ty, (Builtin.clear_ #[43] ty #[.slice (some ⟨g, i * 3, none⟩) m (cap - i)]).run Try.prog w = .ok (.tuple #[]) wc) ∧
      T3 wc tg (.slice (some ⟨g, 0, none⟩) n cap) (.int .i64 l) (.int .i64 (cnt f n : Nat)) ∧ PgAt wc g n cap (clearRun f i m) ∧ Fr [tg, g] w wc :=
  ⟨_, run_clear_pages h.pg h1 hm, h.blk.kept (heap_fill_far h.ne _ _ _), h.pg.clear hm, Fr.fill (by simp) _ _ (Fr.refl _ _)⟩

theorem TabL.give {w wc : World} {tg g n cap l i m l' : Nat} {f : Nat → Pg} (h : TabL w tg g n cap f l) (hg : Givable n f i) (hm : sizeAt f i = m)
    (hT : T3 wc tg (.slice (some ⟨g, 0, none⟩) n cap) (.int .i64 l) (.int .i64 (cnt f n : Nat))) (hP : PgAt wc g n cap (clearRun f i m)) (hl : l' ≤ l) (hi : l' ≤ i) {v u : Value} (hv : v = .int .i64 ((cnt f n : Nat) + (m : Nat))) (hu : u = .int .i64 (l' : Nat)) :
    TabL ((wc.setCell ⟨tg, 2, none⟩ v).setCell ⟨tg, 1, none⟩ u) tg g n cap (giveF n f i) l' := by
  subst hv hu
  have hcg := cnt_give h.wf hg
  have hwg := wf_give h.wf (i : Int)
  rw [Int.toNat_natCast, hm] at hcg
  rw [giveF_yes hg] at hcg hwg ⊢
  rw [Int.toNat_natCast, hm] at hcg hwg ⊢
  have hln := h.lown
  refine ⟨?_, PgAt.far (p := ⟨tg, 1, none⟩) (PgAt.far (p := ⟨tg, 2, none⟩) hP h.ne.symm _) h.ne.symm _, hwg, fun j hj => ?_, by omega, h.n1, h.n4⟩
  · have hx : (.int .i64 ((cnt f n : Nat) + (m : Nat)) : Value) = .int .i64 (cnt (clearRun f i m) n : Nat) := by congr 1; omega
    rw [← hx]
    exact T3.set1 (T3.set2 hT _) _
  · rw [clearRun_out (by omega)]
    exact h.lows j (by omega)

set_option maxHeartbeats 400000 in
theorem give_yes {w : World} {tg g n cap l : Nat} {f : Nat → Pg} (h : TabL w tg g n cap f l) {i : Nat} (hg : Givable n f i) :
    Calls Try.prog 19 #[.pointer (some ⟨tg, 0, none⟩), .int .i64 (i : Int)] w (Gave w tg g n cap f i) := by
  obtain ⟨s1, s16, sn, _, smx⟩ := h.wf.span hg
  have hcg := cnt_give h.wf hg
  have hi : i < n := by have := hg.2.1; omega
  have hk0 := hg.2.2.1
  have hk3 := hg.2.2.2
  rw [Int.toNat_natCast] at *
  generalize hm : sizeAt f i = m at *
  have c0 := h.blk.c0
  have pk := h.pg.k hi
  have pr := h.pg.r hi
  have hc := free_any h i hi
  rw [isz_not hk0] at hc
  have dk3 : ((f i).k == 3) = false := by simp [hk3]
  obtain ⟨wc, hcl, hT, hP, hF⟩ := cleared h (show 0 < m by omega) sn
  have c1 := hT.c1
  have c2 := hT.c2
  have z1 := hT.free 1
  have z2 := hT.free 2
  have hle := h.pg.le
  have hn4 := h.n4
  have hcn : cnt f n + m ≤ 4096 := by have := cnt_le (giveF n f i) n; omega
  have hln := h.lown
  have h0 : (0 : Int) ≤ i := by omega
  have h1 : (i : Int) < n := by omega
  have HC := Lib.hid hc
  have H0 := Lib.hid h
  have HG := Lib.hid hg
  have HM := Lib.hid hm
  have HT := Lib.hid hT
  have HP := Lib.hid hP
  have HF := Lib.hid hF
  have GE := Lib.hid (giveE_yes hg)
  clear h hc hg hm hcg hk0 hk3 hT hP hF
  have hrm : (1 < (f i).r ∧ (f i).r = (m : Int)) ∨ (¬ 1 < (f i).r ∧ m = 1) := by omega
  rcases hrm with ⟨hr1, hrm⟩ | ⟨hr1, hrm⟩
  · rw [hrm] at pr
    have hm1 : (1 : Int) < m := by omega
    clear smx hrm hr1
    by_cases hil : (i : Int) < l
    · go_enter Try.func19, Try.ntmps19
      go_wp2_with (go_at_call 33; refine HC.out.mono ?_; rintro e w3 ⟨rfl, rfl⟩)
      go_ret
      exact ⟨ret_int GE.out.symm, ⟨i, H0.out.give HG.out HM.out HT.out HP.out (by omega) (Nat.le_refl _) rfl rfl⟩, (HF.out.setCell (.inl (by simp)) _).setCell (.inl (by simp)) _⟩
    · go_enter Try.func19, Try.ntmps19
      go_wp2_with (go_at_call 33; refine HC.out.mono ?_; rintro e w3 ⟨rfl, rfl⟩)
      go_ret
      exact ⟨ret_int GE.out.symm, ⟨l, H0.out.give HG.out HM.out HT.out HP.out (Nat.le_refl _) (by omega) rfl rfl⟩, (HF.out.setCell (.inl (by simp)) _).setCell (.inl (by simp)) _⟩
  · subst hrm
    clear smx
    by_cases hil : (i : Int) < l
    · go_enter Try.func19, Try.ntmps19
      go_wp2_with (go_at_call 33; refine HC.out.mono ?_; rintro e w3 ⟨rfl, rfl⟩)
      go_ret
      exact ⟨ret_int GE.out.symm, ⟨i, H0.out.give HG.out HM.out HT.out HP.out (by omega) (Nat.le_refl _) rfl rfl⟩, (HF.out.setCell (.inl (by simp)) _).setCell (.inl (by simp)) _⟩
    · go_enter Try.func19, Try.ntmps19
      go_wp2_with (go_at_call 33; refine HC.out.mono ?_; rintro e w3 ⟨rfl, rfl⟩)
      go_ret
      exact ⟨ret_int GE.out.symm, ⟨l, H0.out.give HG.out HM.out HT.out HP.out (Nat.le_refl _) (by omega) rfl rfl⟩, (HF.out.setCell (.inl (by simp)) _).setCell (.inl (by simp)) _⟩

/-- Give, whatever it is asked. -/
theorem give_any {w : World} {tg g n cap : Nat} {f : Nat → Pg} (h : Tab w tg g n cap f) (i : Int) :
    Calls Try.prog 19 #[.pointer (some ⟨tg, 0, none⟩), .int .i64 i] w (Gave w tg g n cap f i) := by
  obtain ⟨l, h⟩ := h
  by_cases hg : Givable n f i
  · obtain ⟨j, rfl⟩ := Int.eq_ofNat_of_zero_le hg.1
    exact give_yes h hg
  · have no : ∀ e w', (e = Ending.returned (.int .i64 1) ∧ w = w') → Gave w tg g n cap f i e w' := by
      rintro e w' ⟨rfl, rfl⟩
      exact ⟨ret_int (giveE_no hg).symm, ⟨l, by rw [giveF_no hg]; exact h⟩, Fr.refl _ _⟩
    by_cases h0 : i < 0 ∨ (n : Int) ≤ i
    · exact (give_out h h0).mono no
    · obtain ⟨j, rfl⟩ := Int.eq_ofNat_of_zero_le (show 0 ≤ i by omega)
      have hj : j < n := by omega
      by_cases hz : isz (f j) = true
      · exact (give_free h hj hz).mono no
      · have hk : (f j).k = 3 := by
          by_cases hk : (f j).k = 3
          · exact hk
          · exact absurd ⟨by omega, by omega, fun g => hz ((h.wf.isz hj).2 g), hk⟩ hg
        exact (give_rest h hj hk).mono no
end Go.Proofs.Ytcdeimmjhfimjaa
