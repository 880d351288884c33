/- Taking whatever is asked; a script of ints that came in; busy plays it on a table. No condition. -/
import Derived.Test.YtcdeimmjhfimjaaFi
import Derived.Deep.Slices
import Derived.Deep.Fields
import Derived.ProofKit
import Derived.OpenShut
namespace Go.Proofs.Ytcdeimmjhfimjaa
open Go.ChangeShapes Go.WideShapes Go.Deep Go.RowKit Go.Proofs.Ytcdeimmjhfimjaa.Pp
set_option linter.unusedVariables false

/-! ### Whatever class or length is asked -/
def tcV (n : Nat) (f : Nat → Pg) (c : Int) : Int := if 0 ≤ c ∧ c < 8 then takeV n f 1 else 0
def tcE (n : Nat) (f : Nat → Pg) (c : Int) : Int := if 0 ≤ c ∧ c < 8 then takeE n f 1 else 1
def tcF (n : Nat) (f : Nat → Pg) (c : Int) : Nat → Pg := if 0 ≤ c ∧ c < 8 then takeC n f c else f
def trV (n : Nat) (f : Nat → Pg) (k : Int) : Int := if 1 ≤ k ∧ k ≤ 16 then takeV n f k.toNat else 0
def trE (n : Nat) (f : Nat → Pg) (k : Int) : Int := if 1 ≤ k ∧ k ≤ 16 then takeE n f k.toNat else 1
def trF (n : Nat) (f : Nat → Pg) (k : Int) : Nat → Pg := if 1 ≤ k ∧ k ≤ 16 then takeR n f k.toNat else f
def TookCT (w : World) (tg g n cap : Nat) (f : Nat → Pg) (c : Int) (e : Ending) (w' : World) : Prop :=
  e = .returned (.tuple #[.int .i64 (tcV n f c), .int .i64 (tcE n f c)]) ∧ Tab w' tg g n cap (tcF n f c) ∧ Fr [tg, g] w w'
def TookRT (w : World) (tg g n cap : Nat) (f : Nat → Pg) (k : Int) (e : Ending) (w' : World) : Prop :=
  e = .returned (.tuple #[.int .i64 (trV n f k), .int .i64 (trE n f k)]) ∧ Tab w' tg g n cap (trF n f k) ∧ Fr [tg, g] w w'
theorem takeClass_tot {w : World} {tg g n cap : Nat} {f : Nat → Pg} (h : Tab w tg g n cap f) (c : Int) : Calls Try.prog 16 #[.pointer (some ⟨tg, 0, none⟩), .int .i64 c] w (TookCT w tg g n cap f c) := by
  unfold TookCT tcV tcE tcF
  by_cases hc : 0 ≤ c ∧ c < 8
  · rw [if_pos hc, if_pos hc, if_pos hc]
    exact takeClass_any h hc.1 hc.2
  · rw [if_neg hc, if_neg hc, if_neg hc]
    exact (takeClass_bad (by omega)).mono fun e w' ⟨he, hb⟩ => ⟨he, h.below hb, Fr.of_below hb⟩
theorem takeRun_tot {w : World} {tg g n cap : Nat} {f : Nat → Pg} (h : Tab w tg g n cap f) (k : Int) : Calls Try.prog 17 #[.pointer (some ⟨tg, 0, none⟩), .int .i64 k] w (TookRT w tg g n cap f k) := by
  unfold TookRT trV trE trF
  by_cases hc : 1 ≤ k ∧ k ≤ 16
  · rw [if_pos hc, if_pos hc, if_pos hc]
    obtain ⟨m, rfl⟩ := Int.eq_ofNat_of_zero_le (show 0 ≤ k by omega)
    rw [Int.toNat_natCast]
    exact takeRun_any h (by omega) (by omega)
  · rw [if_neg hc, if_neg hc, if_neg hc]
    exact (takeRun_bad (by omega)).mono fun e w' ⟨he, hb⟩ => ⟨he, h.below hb, Fr.of_below hb⟩

/-! ### A script -/
/-- n rows of k ints lie at A. -/
def IntRows (w : World) (A : Option Addr) (n k : Nat) : Prop :=
  0 < n → ∃ b off, A = some ⟨b, off, none⟩ ∧ b < w.heap.size ∧ ∀ i, i < n → ∀ j, j < k → ∃ x : Int, (Lit.int .i64 x).wf = true ∧ w.cell? ⟨b, off + (i * k + j), none⟩ = some (.int .i64 x)
theorem IntRows.below {w w' : World} {A : Option Addr} {n k : Nat} (h : IntRows w A n k) (hb : Below w.heap.size w w') : IntRows w' A n k := fun h0 => by
  obtain ⟨b, off, ha, hlt, hc⟩ := h h0
  refine ⟨b, off, ha, Nat.lt_of_lt_of_le hlt hb.size, fun i hi j hj => ?_⟩
  obtain ⟨x, hx, hcell⟩ := hc i hi j hj
  exact ⟨x, hx, (hb.cell (p := ⟨b, _, none⟩) hlt).trans hcell⟩
/-- A step of the script, at the world at hand. -/
theorem IntRows.step {w : World} {A : Option Addr} {n i : Nat} (h : IntRows w A n 3) (hi : i < n) : ∃ b off x0 x1 x2, A = some ⟨b, off, none⟩ ∧
    w.cell? ⟨b, off + i * 3, none⟩ = some (.int .i64 x0) ∧ w.cell? ⟨b, off + i * 3 + 1, none⟩ = some (.int .i64 x1) ∧ w.cell? ⟨b, off + i * 3 + 2, none⟩ = some (.int .i64 x2) ∧
    (Lit.int .i64 x0).wf = true ∧ (Lit.int .i64 x2).wf = true := by
  obtain ⟨b, off, ha, _, hc⟩ := h (by omega)
  obtain ⟨x0, h0, c0⟩ := hc i hi 0 (by omega)
  obtain ⟨x1, h1, c1⟩ := hc i hi 1 (by omega)
  obtain ⟨x2, h2, c2⟩ := hc i hi 2 (by omega)
  exact ⟨b, off, x0, x1, x2, ha, c0, c1, c2, h0, h2⟩

theorem open_rows {H : Type} {enc : TypeId × Value → H} {P : Program} {w : World} {t e : TypeId} {fs : Array Field} {fuel : Nat} {A : Option Addr} {n cap : Nat} {x : DataW H × List MemPlace}
    (ht : P.underlying t = some (.slice e)) (he : P.underlying e = some (.struct fs)) (hone : oneCellFields P fs = true) (hC : P.cellsOf e = fs.size) (hfs : 0 < fs.size)
    {T : TypeId} (hall : fs.all (fun f => f.type == T) = true) (hT : P.underlying T = some (.int .i64))
    (h : DataW.trod enc P w 0 (fun _ => true) true fuel t [.slice A n cap] = some x) : n ≤ cap ∧ cap ≤ maxLen ∧ IntRows w A n fs.size := by
  have hint : ∀ (j : Nat) (f : Field), fs[j]? = some f → P.underlying f.type = some (.int .i64) := by
    intro j f hj
    obtain ⟨hlt, rfl⟩ := Array.getElem?_eq_some_iff.1 hj
    have := Array.all_eq_true.1 hall j hlt
    rw [beq_iff_eq] at this
    rw [this]
    exact hT
  rcases open_slice ht h with ⟨hv, _⟩ | ⟨a, len, cp, m, q, D, Pl, hv, _, hl, hm, hmm, _, hi⟩
  · simp only [List.cons.injEq, Value.slice.injEq, and_true] at hv
    obtain ⟨rfl, rfl, rfl⟩ := hv
    exact ⟨by omega, by unfold maxLen; omega, fun h0 => by omega⟩
  · simp only [List.cons.injEq, Value.slice.injEq, and_true] at hv
    obtain ⟨rfl, rfl, rfl⟩ := hv
    refine ⟨hl, hm, fun h0 => ?_⟩
    simp only [if_true] at hmm
    subst hmm
    have cellOf : ∀ i, i < n → ∀ j, j < fs.size → ∃ y : Int, (Lit.int .i64 y).wf = true ∧ w.cell? (a.add (i * fs.size + j)) = some (.int .i64 y) := by
      intro i hin j hj
      obtain ⟨cs, hc, htr⟩ := hi i (by omega)
      rw [hC] at hc
      obtain ⟨_, hcl, hat⟩ := World.cells?_some hc
      obtain ⟨ys, r, _, _, _, hyl, hf⟩ := DataW.trod_struct he htr
      have hfj : fs[j]? = some (fs[j]'hj) := Array.getElem?_eq_getElem hj
      obtain ⟨ho, hk⟩ := hone_of hone j _ hfj
      have hcj := hf j _ hfj
      rw [ho, hk, List.drop_eq_getElem_cons (by omega)] at hcj
      simp only [List.take_succ_cons, List.take_zero] at hcj
      have hyj : ys[j]? = some (ys[j]'(by omega)) := List.getElem?_eq_getElem (by omega)
      rw [hyj] at hcj
      obtain ⟨y, hy, _, hwf⟩ := DataW.trod_int (hint j _ hfj) hcj
      simp only [List.cons.injEq, and_true] at hy
      refine ⟨y, hwf, ?_⟩
      rw [← Go.Deep.add_add, hat j hj, List.getElem?_eq_getElem (by omega), hy]
    obtain ⟨y0, _, hy0⟩ := cellOf 0 h0 0 hfs
    have hs : a.spot = none := by simpa [Addr.add] using World.cell?_spot hy0
    have hb := World.block_lt_of_cell? w _ hy0
    obtain ⟨b, off, spot⟩ := a
    simp only at hs
    subst hs
    refine ⟨b, off, rfl, by simpa [Addr.add] using hb, fun i hin j hj => ?_⟩
    obtain ⟨y, hw, hc⟩ := cellOf i hin j hj
    exact ⟨y, hw, by rw [← Go.WideShapes.add_plain]; exact hc⟩

/-! ### busy -/
def BusyP (w : World) (n : Nat) (e : Ending) (w' : World) : Prop :=
  ∃ tg g f, e = .returned (.pointer (some ⟨tg, 0, none⟩)) ∧ Tab w' tg g n n f ∧ w.heap.size ≤ tg ∧ w.heap.size ≤ g ∧ Below w.heap.size w w'
theorem Tab.alloc {w : World} {tg g n cap : Nat} {f : Nat → Pg} (h : Tab w tg g n cap f) (o : Obj) : Tab (w.alloc o) tg g n cap f := h.below ((Below.refl _ _).alloc (Nat.le_refl _) o)
theorem Fr.onto_alloc {L : List Nat} {w w1 w2 : World} {o : Obj} (k : Fr L (w1.alloc o) w2) (h : Below w.heap.size w w1) (hL : ∀ x, x ∈ L → w.heap.size ≤ x) : Below w.heap.size w w2 := k.onto (h.alloc h.size o) hL

set_option maxHeartbeats 800000 in
set_option maxRecDepth 100000 in
theorem busy_any (n : Nat) (h1 : 1 ≤ n) (h4 : n ≤ 4096) (A : Option Addr) (len cap : Nat) (w : World) (hcap : len ≤ cap) (hmax : cap ≤ maxLen) (hr : IntRows w A len 3) :
    Calls Try.prog 20 #[.int .i64 (n : Int), .slice A len cap] w (BusyP w n) := by
  unfold maxLen at hmax
  have HR := Lib.hid hr
  clear hr
  go_enter Try.func20, Try.ntmps20
  go_wp2_with fail
  refine (new_any n h1 h4 _).mono ?_
  rintro e w1 ⟨tg, g, rfl, hT, ht, hg, hB⟩
  have HT := Lib.hid hT
  have HB := Lib.hid hB
  clear hT hB
  go_wp2_with fail
  go_loopw [7] (fun i wr => ∃ (k : Nat) (f : Nat → Pg), k ≤ len ∧ k ≤ 400 ∧ i = .int .i64 (k : Int) ∧ Hid (Tab wr tg g n n f) ∧ Below w.heap.size w wr) (fun i _ => 400 - (intOf i).toNat)
  case atStart => exact ⟨0, _, by omega, by omega, rfl, HT.out, HB.out⟩
  case round =>
    obtain ⟨k, f, hk, hk4, rfl, hTa, hbw⟩ := hrel
    by_cases hlt : k < len
    · by_cases h400 : k < 400
      · have i400 : (k : Int) < 400 := by omega
        obtain ⟨b, off, x0, x1, x2, rfl, c0, c1, c2, _, _⟩ := (HR.out.below hbw).step hlt
        by_cases e1 : x1 = 1
        · subst e1
          go_wp2_with fail
          refine (takeClass_tot (hTa.out.alloc _) x2).mono ?_
          rintro e w3 ⟨rfl, hT3, hF3⟩
          have HT3 := Lib.hid hT3
          have HB3 := Lib.hid (hF3.onto_alloc hbw (two_ge ht hg))
          clear hT3 hF3
          go_wp2_with fail
          go_roundw
          case rel => exact ⟨k + 1, _, by omega, by omega, by go_num, HT3.out, HB3.out⟩
          case measure => simp [intOf]; omega
        · have q1 : (x1 == 1) = false := by simp [e1]
          by_cases e2 : x1 = 2
          · subst e2
            go_wp2_with fail
            refine (takeRun_tot (hTa.out.alloc _) x2).mono ?_
            rintro e w3 ⟨rfl, hT3, hF3⟩
            have HT3 := Lib.hid hT3
            have HB3 := Lib.hid (hF3.onto_alloc hbw (two_ge ht hg))
            clear hT3 hF3
            go_wp2_with fail
            go_roundw
            case rel => exact ⟨k + 1, _, by omega, by omega, by go_num, HT3.out, HB3.out⟩
            case measure => simp [intOf]; omega
          · have q2 : (x1 == 2) = false := by simp [e2]
            by_cases e3 : x1 = 3
            · subst e3
              go_wp2_with fail
              refine (give_any (hTa.out.alloc _) x2).mono ?_
              rintro e w3 ⟨rfl, hT3, hF3⟩
              have HT3 := Lib.hid hT3
              have HB3 := Lib.hid (hF3.onto_alloc hbw (two_ge ht hg))
              clear hT3 hF3
              go_wp2_with fail
              go_roundw
              case rel => exact ⟨k + 1, _, by omega, by omega, by go_num, HT3.out, HB3.out⟩
              case measure => simp [intOf]; omega
            · have q3 : (x1 == 3) = false := by simp [e3]
              clear e1 e2 e3
              go_wp2_with fail
              go_roundw
              case rel => exact ⟨k + 1, _, by omega, by omega, by go_num, hTa.out.alloc _, hbw.alloc hbw.size _⟩
              case measure => simp [intOf]; omega
      · have i400 : (400 : Int) ≤ k := by omega
        clear h400 hk4
        go_wp2_with fail
        go_ret
        exact ⟨tg, g, f, rfl, hTa.out, ht, hg, hbw⟩
    · go_wp2_with fail
      go_ret
      exact ⟨tg, g, f, rfl, hTa.out, ht, hg, hbw⟩
end Go.Proofs.Ytcdeimmjhfimjaa
