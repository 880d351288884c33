/- TakeClass takes the lowest free page. No condition. -/
import Derived.Test.YtcdeimmjhfimjaaWb
namespace Go.Proofs.Ytcdeimmjhfimjaa
open Go.RowKit Go.Proofs.Ytcdeimmjhfimjaa.Pp
set_option linter.unusedVariables false

theorem Fr.left {a b : Nat} {w w' : World} (h : Fr [a] w w') : Fr [a, b] w w' := h.more fun k _ hk => by simp at hk ⊢; exact .inl hk
theorem ret_two {a b c d : Int} (h : a = b) (h' : c = d) : Ending.returned (.tuple #[.int .i64 a, .int .i64 c]) = .returned (.tuple #[.int .i64 b, .int .i64 d]) := by rw [h, h']
theorem first_low {n l : Nat} {f : Nat → Pg} (hl : Low f l) (hln : l < n) (hz : isz (f l) = true) : firstRun n f 1 = some l := by
  refine firstRun_some ⟨by omega, fun j h0 h1 => ?_⟩ fun s hs hr => ?_
  · obtain rfl : j = l := by omega
    exact hz
  · have := hl s hs
    rw [hr.2 s (by omega) (by omega)] at this
    cases this
theorem first_full {n l k : Nat} {f : Nat → Pg} (hl : Low f l) (hln : n ≤ l) (hk : 1 ≤ k) : firstRun n f k = none := by
  refine firstRun_none.2 fun s hr => ?_
  have h1 := hr.1
  have := hl s (by omega)
  rw [hr.2 s (by omega) (by omega)] at this
  cases this

/-- A page stored: the table's fields are as they were. -/
theorem cell_put3 {w : World} {tg g i o1 o2 o3 : Nat} {v a b c : Value} (hne : tg ≠ g) (h : w.cell? ⟨tg, i, none⟩ = some v) :
    (((w.setCell ⟨g, o1, none⟩ a).setCell ⟨g, o2, none⟩ b).setCell ⟨g, o3, none⟩ c).cell? ⟨tg, i, none⟩ = some v := by
  have e : ∀ o, (⟨g, o, none⟩ : Addr) ≠ ⟨tg, i, none⟩ := fun o h => hne (by injection h with h; exact h.symm)
  rw [World.cell?_setCell_other (h := e o3), World.cell?_setCell_other (h := e o2), World.cell?_setCell_other (h := e o1)]
  exact h
theorem T3.put3 {w : World} {tg g o1 o2 o3 : Nat} {x y z a b c : Value} (h : T3 w tg x y z) (hne : tg ≠ g) :
    T3 (((w.setCell ⟨g, o1, none⟩ a).setCell ⟨g, o2, none⟩ b).setCell ⟨g, o3, none⟩ c) tg x y z :=
  T3.far (p := ⟨g, o3, none⟩) (T3.far (p := ⟨g, o2, none⟩) (T3.far (p := ⟨g, o1, none⟩) h hne _) hne _) hne _
def TookC (w : World) (tg g n cap : Nat) (f : Nat → Pg) (c : Int) (e : Ending) (w' : World) : Prop :=
  e = .returned (.tuple #[.int .i64 (takeV n f 1), .int .i64 (takeE n f 1)]) ∧ Tab w' tg g n cap (takeC n f c) ∧ Fr [tg, g] w w'

theorem takeClass_bad {w : World} {tg : Nat} {c : Int} (hc : c < 0 ∨ 8 ≤ c) :
    Calls Try.prog 16 #[.pointer (some ⟨tg, 0, none⟩), .int .i64 c] w fun e w' => e = .returned (.tuple #[.int .i64 0, .int .i64 1]) ∧ Below w.heap.size w w' := by
  have hw : wordsV c = 0 := by
    rcases hc with hc | hc
    · exact words_low hc
    · exact words_high hc
  have hz : (wordsV c == 0) = true := by simp [hw]
  clear hw hc
  go_enter Try.func16, Try.ntmps16
  go_wp2_with (go_at_call 31; refine (words_any _ _).mono ?_; rintro e w1 ⟨rfl, hb⟩)
  go_ret2
  exact ⟨rfl, hb⟩

theorem takeClass_any {w : World} {tg g n cap : Nat} {f : Nat → Pg} {c : Int} (h : Tab w tg g n cap f) (h0 : 0 ≤ c) (h8 : c < 8) :
    Calls Try.prog 16 #[.pointer (some ⟨tg, 0, none⟩), .int .i64 c] w (TookC w tg g n cap f c) := by
  obtain ⟨low, h⟩ := h
  have hz := words_pos h0 h8
  have H0 := Lib.hid h
  clear h
  go_enter Try.func16, Try.ntmps16
  go_wp2_with fail
  refine (words_any _ _).mono ?_
  rintro e w1 ⟨rfl, hb⟩
  go_wp2_with fail
  refine (rise_any (H0.out.below hb)).mono ?_
  rintro e w2 ⟨rfl, l, hT, hz2, hfr⟩
  have HT := Lib.hid hT
  have c0 := hT.blk.c0
  have c1 := hT.blk.c1
  have c2 := hT.blk.c2
  have z2 := hT.blk.free 2
  have hne := hT.ne
  have hln := hT.lown
  have hn4 := hT.n4
  have hcn : cnt f n ≤ 4096 := Nat.le_trans (cnt_le f n) hn4
  have HF := Lib.hid hfr
  clear hT hfr
  by_cases hlt : l < n
  · have d1 : ((l : Int) == (n : Int)) = false := by simp; omega
    have i0 : (0 : Int) ≤ l := by omega
    have i1 : (l : Int) < n := by omega
    have HZ := Lib.hid (hz2 hlt)
    clear hz2
    have p0 := HT.out.pg.k hlt
    have p1 := HT.out.pg.c hlt
    have p2 := HT.out.pg.r hlt
    have f0 := HT.out.pg.frozen (l * 3)
    have f1 := HT.out.pg.frozen (l * 3 + 1)
    have f2 := HT.out.pg.frozen (l * 3 + 2)
    go_wp2_with fail
    go_quiet (fail)
    go_wp2_with fail
    go_region_held3 (fun w' => w'.cell? ⟨tg, 0, none⟩ = some (.slice (some ⟨g, 0, none⟩) n cap) ∧ w'.cell? ⟨tg, 1, none⟩ = some (.int .i64 l)) (first | exact ⟨c0, c1⟩ | exact ⟨cell_put3 hne c0, cell_put3 hne c1⟩) (fail)
    go_wp2_with fail
    go_ret2
    have hf1 := first_low HT.out.lows hlt HZ.out
    have hcu := cnt_upd (p := ⟨1, c, 0⟩) hlt HZ.out (by simp [isz])
    refine ⟨ret_two (takeV_some hf1).symm (takeE_some hf1).symm, ⟨l, ?_⟩, ?_⟩
    · rw [takeC_some hf1]
      refine ⟨?_, ?_, wf_take HT.out.wf hlt HZ.out c, fun j hj => ?_, hln, HT.out.n1, hn4⟩
      · have hb := HT.out.blk
        have hx : (.int .i64 ((cnt f n : Nat) - 1) : Value) = .int .i64 (cnt (upd f l ⟨1, c, 0⟩) n : Nat) := by congr 1; omega
        rw [← hx]
        exact T3.set2 (T3.put3 (T3.kept (w' := w2.drewN (nq + 1)) hb rfl) hne) _
      · exact PgAt.far (p := ⟨tg, 2, none⟩) (PgAt.set (HT.out.pg.drewN _) hlt _ _ _) hne.symm _
      · rw [upd_ne (by omega)]; exact HT.out.lows j hj
    · exact (((Fr.of_below hb).trans HF.out.left).drewN _ |>.setCell (.inl (by simp)) _ |>.setCell (.inl (by simp)) _ |>.setCell (.inl (by simp)) _ |>.setCell (.inl (by simp)) _)
  · have e : l = n := by omega
    subst e
    have d1 : ((l : Int) == (l : Int)) = true := by simp
    go_wp2_with fail
    go_quiet (fail)
    go_wp2_with fail
    go_ret2
    have hf1 := first_full (k := 1) HT.out.lows (Nat.le_refl _) (by omega)
    exact ⟨ret_two (takeV_none hf1).symm (takeE_none hf1).symm, ⟨l, by rw [takeC_none hf1]; exact HT.out.drewN _⟩, (((Fr.of_below hb).trans HF.out.left).drewN _)⟩
end Go.Proofs.Ytcdeimmjhfimjaa
