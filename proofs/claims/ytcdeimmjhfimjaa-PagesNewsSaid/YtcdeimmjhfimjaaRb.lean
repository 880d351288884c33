/- The reference's TakeClass, TakeRun and Give answer as the program's. No condition. -/
import Derived.Test.YtcdeimmjhfimjaaRa
namespace Go.Proofs.Ytcdeimmjhfimjaa
open Go.RowKit Go.Proofs.Ytcdeimmjhfimjaa.Pp
set_option linter.unusedVariables false

theorem blk_put3 {w : World} {rg g : Nat} {o : Obj} (hne : rg ≠ g) (h : w.heap[rg]? = some o) {a b c : Value} {o1 o2 o3 : Nat} :
    (((w.setCell ⟨g, o1, none⟩ a).setCell ⟨g, o2, none⟩ b).setCell ⟨g, o3, none⟩ c).heap[rg]? = some o := by
  rw [heap_set_far (p := ⟨g, o3, none⟩) hne, heap_set_far (p := ⟨g, o2, none⟩) hne, heap_set_far (p := ⟨g, o1, none⟩) hne]
  exact h
theorem RTab.put3 {w : World} {rg g n cap i : Nat} {f : Nat → Pg} (h : RTab w rg g n cap f) {a b c : Value} {o1 o2 o3 : Nat} :
    (((w.setCell ⟨g, o1, none⟩ a).setCell ⟨g, o2, none⟩ b).setCell ⟨g, o3, none⟩ c).heap[rg]? = some (.cells #[.slice (some ⟨g, 0, none⟩) n cap] 62 (0, 0)) := by
  rw [heap_set_far (p := ⟨g, o3, none⟩) h.ne, heap_set_far (p := ⟨g, o2, none⟩) h.ne, heap_set_far (p := ⟨g, o1, none⟩) h.ne]
  exact h.blk
theorem Fr.put3 {L : List Nat} {a w : World} (h : Fr L a w) {g : Nat} (hg : g ∈ L) {o1 o2 o3 : Nat} {x y z : Value} :
    Fr L a (((w.setCell ⟨g, o1, Option.none⟩ x).setCell ⟨g, o2, Option.none⟩ y).setCell ⟨g, o3, Option.none⟩ z) :=
  ((h.setCell (p := ⟨g, o1, Option.none⟩) (.inl hg) x).setCell (p := ⟨g, o2, Option.none⟩) (.inl hg) y).setCell (p := ⟨g, o3, Option.none⟩) (.inl hg) z

def RTookCT (w : World) (rg g n cap : Nat) (f : Nat → Pg) (c : Int) (e : Ending) (w' : World) : Prop :=
  e = .returned (.tuple #[.int .i64 (tcV n f c), .int .i64 (tcE n f c)]) ∧ RTab w' rg g n cap (tcF n f c) ∧ Fr [g] w w'
theorem rtakeClass_tot {w : World} {rg g n cap : Nat} {f : Nat → Pg} (h : RTab w rg g n cap f) (c : Int) : Calls Try.prog 39 #[.pointer (some ⟨rg, 0, none⟩), .int .i64 c] w (RTookCT w rg g n cap f c) := by
  unfold RTookCT tcV tcE tcF
  by_cases hc : 0 ≤ c ∧ c < 8
  · rw [if_pos hc, if_pos hc, if_pos hc]
    have c0 := h.c0
    have h4 := h.n4
    have hc0 := hc.1
    have hc8 := hc.2
    have H0 := Lib.hid h
    clear h hc
    go_enter Try.func39, Try.ntmps39
    go_wp2
    go_loop [6] (fun i => ∃ k : Nat, k ≤ n ∧ i = .int .i64 (k : Int) ∧ Hid (Low f k)) (fun i => n - (intOf i).toNat)
    case atStart => exact ⟨0, by omega, rfl, fun j hj => by omega⟩
    case round =>
      obtain ⟨k, hk, rfl, hL⟩ := hrel
      by_cases hlt : k < n
      · have pk := H0.out.pg.k hlt
        have pc := H0.out.pg.c hlt
        have pr := H0.out.pg.r hlt
        have f0 := H0.out.pg.frozen (k * 3)
        have f1 := H0.out.pg.frozen (k * 3 + 1)
        have f2 := H0.out.pg.frozen (k * 3 + 2)
        have i0 : (0 : Int) ≤ k := by omega
        have i1 : (k : Int) < n := by omega
        have hz := H0.out.wf.isz hlt
        by_cases hk0 : (f k).k = 0
        · have q : ((f k).k == 0) = true := by simp [hk0]
          have HZ := Lib.hid (hz.2 hk0)
          clear hz hk0
          go_wp2
          go_ret2
          have hf := first_low hL.out hlt HZ.out
          refine ⟨ret_two (takeV_some hf).symm (takeE_some hf).symm, ?_, (Fr.refl _ _).put3 (by simp)⟩
          rw [takeC_some hf]
          exact ⟨H0.out.put3 (i := 0), H0.out.pg.set hlt _ _ _, wf_take H0.out.wf hlt HZ.out c, H0.out.n1, h4⟩
        · have q : ((f k).k == 0) = false := by simp [hk0]
          have HK := Lib.hid (isz_not hk0)
          clear hz hk0
          go_wp2
          go_round
          case rel => exact ⟨k + 1, by omega, by go_num, fun j hj => by
            by_cases e : j = k
            · subst e; exact HK.out
            · exact hL.out j (by omega)⟩
          case measure => simp [intOf]; omega
      · go_wp2
        go_ret2
        have hf := first_full (n := n) (k := 1) hL.out (by omega) (Nat.le_refl _)
        exact ⟨ret_two (takeV_none hf).symm (takeE_none hf).symm, by rw [takeC_none hf]; exact H0.out, Fr.refl _ _⟩
  · rw [if_neg hc, if_neg hc, if_neg hc]
    by_cases h0 : c < 0
    · go_enter Try.func39, Try.ntmps39
      go_wp2
      go_ret2
      exact ⟨rfl, h, Fr.refl _ _⟩
    · have h7 : 7 < c := by omega
      go_enter Try.func39, Try.ntmps39
      go_wp2
      go_ret2
      exact ⟨rfl, h, Fr.refl _ _⟩

/-- The page at which the lowest row begins; -1: there is none. -/
def rowV (n : Nat) (f : Nat → Pg) (k : Nat) : Int := match firstRun n f k with | some s => s | none => -1
theorem rowV_some {n k s : Nat} {f : Nat → Pg} (h : firstRun n f k = some s) : rowV n f k = s := by unfold rowV; rw [h]
theorem rowV_none {n k : Nat} {f : Nat → Pg} (h : firstRun n f k = none) : rowV n f k = -1 := by unfold rowV; rw [h]
theorem row_any {w : World} {rg g n cap k : Nat} {f : Nat → Pg} (h : RTab w rg g n cap f) (h1 : 1 ≤ k) (h16 : k ≤ 16) :
    Calls Try.prog 42 #[.pointer (some ⟨rg, 0, none⟩), .int .i64 (k : Int)] w fun e w' => e = .returned (.int .i64 (rowV n f k)) ∧ w = w' := by
  have c0 := h.c0
  have h4 := h.n4
  have H0 := Lib.hid h
  clear h
  go_enter Try.func42, Try.ntmps42
  go_wp2
  go_loop [5, 6] (fun lg i => ∃ x m : Nat, x ≤ n ∧ m ≤ x ∧ m < k ∧ i = .int .i64 (x : Int) ∧ lg = .int .i64 (m : Int) ∧ Hid (Scan n f k x m)) (fun _ i => n - (intOf i).toNat)
  case atStart => exact ⟨0, 0, by omega, by omega, by omega, rfl, rfl, Scan.zero h1⟩
  case round =>
    obtain ⟨x, m, hx2, hm1, hm2, rfl, rfl, hS⟩ := hrel
    by_cases hlt : x < n
    · have pk := H0.out.pg.k hlt
      have i0 : (0 : Int) ≤ x := by omega
      have i1 : (x : Int) < n := by omega
      have hz := H0.out.wf.isz hlt
      by_cases hk0 : (f x).k = 0
      · have q : ((f x).k != 0) = false := by simp [hk0]
        have HZ := Lib.hid (hz.2 hk0)
        clear hz hk0
        by_cases hmk : m + 1 = k
        · have d1 : ((m : Int) + 1 == (k : Int)) = true := by simp; omega
          have HF := Lib.hid (hS.out.found hlt HZ.out hmk).2
          have HX := Lib.hid (show (x : Int) - k + 1 = ((x - m : Nat) : Int) by omega)
          clear hmk
          go_wp2
          go_ret
          exact ⟨ret_int (by rw [rowV_some HF.out, HX.out]), rfl⟩
        · have d1 : ((m : Int) + 1 == (k : Int)) = false := by simp; omega
          have HMK := Lib.hid hmk
          clear hmk
          go_wp2
          go_round
          case rel => exact ⟨x + 1, m + 1, by omega, by omega, by have := HMK.out; omega, by go_num, by go_num, hS.out.hit HZ.out HMK.out⟩
          case measure => simp [intOf]; omega
      · have q : ((f x).k != 0) = true := by simp [hk0]
        have HZ := Lib.hid (isz_not hk0)
        clear hz hk0
        go_wp2
        go_round
        case rel => exact ⟨x + 1, 0, by omega, by omega, by omega, by go_num, rfl, hS.out.miss HZ.out⟩
        case measure => simp [intOf]; omega
    · go_wp2
      go_ret
      exact ⟨ret_int (rowV_none (hS.out.done (by omega))).symm, rfl⟩

/-- The head is there, and the rests up to j. -/
def headTo (f : Nat → Pg) (s k j : Nat) : Nat → Pg := fun x => if x = s then ⟨2, 0, k⟩ else if s < x ∧ x < s + j then ⟨3, 0, 0⟩ else f x
theorem headTo_one (f : Nat → Pg) (s k : Nat) : upd f s ⟨2, 0, k⟩ = headTo f s k 1 := by
  funext x
  unfold upd headTo
  by_cases e : x = s
  · rw [if_pos e, if_pos e]
  · rw [if_neg e, if_neg e, if_neg (by omega)]
theorem headTo_succ (f : Nat → Pg) (s k : Nat) {j : Nat} (hj : 1 ≤ j) : upd (headTo f s k j) (s + j) ⟨3, 0, 0⟩ = headTo f s k (j + 1) := by
  funext x
  unfold upd headTo
  by_cases e : x = s + j
  · rw [if_pos e, if_neg (by omega), if_pos (by omega)]
  · rw [if_neg e]
    by_cases e2 : x = s
    · rw [if_pos e2, if_pos e2]
    · rw [if_neg e2, if_neg e2]
      by_cases e3 : s < x ∧ x < s + j
      · rw [if_pos e3, if_pos (by omega)]
      · rw [if_neg e3, if_neg (by omega)]
def RTookRT (w : World) (rg g n cap : Nat) (f : Nat → Pg) (k : Int) (e : Ending) (w' : World) : Prop :=
  e = .returned (.tuple #[.int .i64 (trV n f k), .int .i64 (trE n f k)]) ∧ RTab w' rg g n cap (trF n f k) ∧ Fr [g] w w'
theorem rtakeRun_any {w : World} {rg g n cap k : Nat} {f : Nat → Pg} (h : RTab w rg g n cap f) (h1 : 1 ≤ k) (h16 : k ≤ 16) :
    Calls Try.prog 40 #[.pointer (some ⟨rg, 0, none⟩), .int .i64 (k : Int)] w fun e w' => e = .returned (.tuple #[.int .i64 (takeV n f k), .int .i64 (takeE n f k)]) ∧ RTab w' rg g n cap (takeR n f k) ∧ Fr [g] w w' := by
  have c0 := h.c0
  have h4 := h.n4
  have hne := h.ne
  have H0 := Lib.hid h
  have HR := Lib.hid (row_any h h1 h16)
  clear h
  cases hf : firstRun n f k with
  | none =>
    have HF := Lib.hid hf
    have hr := HR.out
    rw [rowV_none hf] at hr
    have HR := Lib.hid hr
    clear hf hr
    go_enter Try.func40, Try.ntmps40
    go_wp2_with (go_at_call 42; refine HR.out.mono ?_; rintro e w1 ⟨rfl, rfl⟩)
    go_ret2
    exact ⟨ret_two (takeV_none HF.out).symm (takeE_none HF.out).symm, by rw [takeR_none HF.out]; exact H0.out, Fr.refl _ _⟩
  | some s =>
    have HF := Lib.hid hf
    have hr := HR.out
    rw [rowV_some hf] at hr
    have hrun := (firstRun_spec hf).1
    have hsk := hrun.1
    have HR := Lib.hid hr
    have HRUN := Lib.hid hrun
    have hs : s < n := by omega
    have p0 := H0.out.pg.k hs
    have p1 := H0.out.pg.c hs
    have p2 := H0.out.pg.r hs
    have f0 := H0.out.pg.frozen (s * 3)
    have f1 := H0.out.pg.frozen (s * 3 + 1)
    have f2 := H0.out.pg.frozen (s * 3 + 2)
    clear hf hr hrun
    go_enter Try.func40, Try.ntmps40
    go_wp2_with (go_at_call 42; refine HR.out.mono ?_; rintro e w1 ⟨rfl, rfl⟩)
    clear p0 p1 p2 f0 f1 f2 c0
    go_loopw [7] (fun i wr => ∃ j : Nat, 1 ≤ j ∧ j ≤ k ∧ i = .int .i64 (j : Int) ∧ Hid (wr.heap[rg]? = some (.cells #[.slice (some ⟨g, 0, none⟩) n cap] 62 (0, 0))) ∧ Hid (PgAt wr g n cap (headTo f s k j)) ∧ Fr [g] w wr) (fun i _ => k - (intOf i).toNat)
    case atStart => exact ⟨1, by omega, by omega, rfl, H0.out.put3 (i := 0), by rw [← headTo_one]; exact H0.out.pg.set hs _ _ _, (Fr.refl _ _).put3 (by simp)⟩
    case round =>
      obtain ⟨j, hj1, hjk, rfl, hB, hP, hfr⟩ := hrel
      have c0 : wr.cell? ⟨rg, 0, none⟩ = some (.slice (some ⟨g, 0, none⟩) n cap) := heap_cell hB.out 0
      by_cases hlt : j < k
      · have hi : s + j < n := by omega
        have p0 := hP.out.k hi
        have p1 := hP.out.c hi
        have p2 := hP.out.r hi
        have f0 := hP.out.frozen ((s + j) * 3)
        have f1 := hP.out.frozen ((s + j) * 3 + 1)
        have f2 := hP.out.frozen ((s + j) * 3 + 2)
        go_wp2
        go_roundw
        case rel => exact ⟨j + 1, by omega, by omega, by go_num, blk_put3 hne hB.out, by rw [← headTo_succ f s k hj1]; exact hP.out.set hi 3 0 0, hfr.put3 (by simp)⟩
        case measure => simp [intOf]; omega
      · have e : j = k := by omega
        subst e
        go_wp2
        go_ret2
        exact ⟨ret_two (takeV_some HF.out).symm (takeE_some HF.out).symm, by rw [takeR_some HF.out]; exact ⟨hB.out, hP.out, wf_run H0.out.wf h1 h16 HRUN.out, H0.out.n1, h4⟩, hfr⟩
theorem rtakeRun_tot {w : World} {rg g n cap : Nat} {f : Nat → Pg} (h : RTab w rg g n cap f) (k : Int) : Calls Try.prog 40 #[.pointer (some ⟨rg, 0, none⟩), .int .i64 k] w (RTookRT w rg g n cap f k) := by
  unfold RTookRT trV trE trF
  by_cases hc : 1 ≤ k ∧ k ≤ 16
  · rw [if_pos hc, if_pos hc, if_pos hc]
    obtain ⟨m, rfl⟩ := Int.eq_ofNat_of_zero_le (show 0 ≤ k by omega)
    rw [Int.toNat_natCast]
    exact rtakeRun_any h (by omega) (by omega)
  · rw [if_neg hc, if_neg hc, if_neg hc]
    by_cases h0 : k < 1
    · go_enter Try.func40, Try.ntmps40
      go_wp2
      go_ret2
      exact ⟨rfl, h, Fr.refl _ _⟩
    · have h7 : 16 < k := by omega
      go_enter Try.func40, Try.ntmps40
      go_wp2
      go_ret2
      exact ⟨rfl, h, Fr.refl _ _⟩
end Go.Proofs.Ytcdeimmjhfimjaa
