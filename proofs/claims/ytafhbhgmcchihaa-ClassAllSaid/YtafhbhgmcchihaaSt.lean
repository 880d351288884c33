/- ClassAll: a slice of structs of ints that came in, opened; the walk. No condition. -/
import Derived.Test.YtafhbhgmcchihaaHo
import Derived.Deep.Slices
import Derived.Deep.Fields
import Derived.ProofKit
import Derived.OpenShut
namespace Go.Proofs.Ytafhbhgmcchihaa
open Go.ChangeShapes Go.WideShapes Go.Deep Go.RowKit Go.Proofs.Ytafhbhgmcchihaa.Cl
set_option linter.unusedVariables false

/-- n rows of k ints lie at A. -/
def IntRows (w : World) (A : Option Addr) (n k : Nat) : Prop :=
  0 < n → ∃ b off, A = some ⟨b, off, none⟩ ∧ b < w.heap.size ∧ ∀ i, i < n → ∀ j, j < k → ∃ x : Int, (Lit.int .i64 x).wf = true ∧ w.cell? ⟨b, off + (i * k + j), none⟩ = some (.int .i64 x)

theorem open_rows {H : Type} {enc : TypeId × Value → H} {P : Program} {w : World} {t e : TypeId} {fs : Array Field} {fuel : Nat} {A : Option Addr} {n cap : Nat} {x : DataW H × List MemPlace}
    (ht : P.underlying t = some (.slice e)) (he : P.underlying e = some (.struct fs)) (hone : oneCellFields P fs = true) (hC : P.cellsOf e = fs.size) (hfs : 0 < fs.size)
    {T : TypeId} (hall : fs.all (fun f => f.type == T) = true) (hT : P.underlying T = some (.int .i64))
    (h : DataW.trod enc P w 0 (fun _ => true) true fuel t [.slice A n cap] = some x) : n ≤ cap ∧ cap ≤ maxLen ∧ IntRows w A n fs.size := by
  have hint : ∀ (j : Nat) (f : Field), fs[j]? = some f → P.underlying f.type = some (.int .i64) := by
    intro j f hj
    obtain ⟨hlt, rfl⟩ := Array.getElem?_eq_some_iff.1 hj
    have := Array.all_eq_true.1 hall j hlt
    rw [beq_iff_eq] at this
    rw [this]
    exact hT
  rcases open_slice ht h with ⟨hv, _⟩ | ⟨a, len, cp, m, q, D, Pl, hv, _, hl, hm, hmm, _, hi⟩
  · simp only [List.cons.injEq, Value.slice.injEq, and_true] at hv
    obtain ⟨rfl, rfl, rfl⟩ := hv
    exact ⟨by omega, by unfold maxLen; omega, fun h0 => by omega⟩
  · simp only [List.cons.injEq, Value.slice.injEq, and_true] at hv
    obtain ⟨rfl, rfl, rfl⟩ := hv
    refine ⟨hl, hm, fun h0 => ?_⟩
    simp only [if_true] at hmm
    subst hmm
    have cellOf : ∀ i, i < n → ∀ j, j < fs.size → ∃ y : Int, (Lit.int .i64 y).wf = true ∧ w.cell? (a.add (i * fs.size + j)) = some (.int .i64 y) := by
      intro i hin j hj
      obtain ⟨cs, hc, htr⟩ := hi i (by omega)
      rw [hC] at hc
      obtain ⟨_, hcl, hat⟩ := World.cells?_some hc
      obtain ⟨ys, r, _, _, _, hyl, hf⟩ := DataW.trod_struct he htr
      have hfj : fs[j]? = some (fs[j]'hj) := Array.getElem?_eq_getElem hj
      obtain ⟨ho, hk⟩ := hone_of hone j _ hfj
      have hcj := hf j _ hfj
      rw [ho, hk, List.drop_eq_getElem_cons (by omega)] at hcj
      simp only [List.take_succ_cons, List.take_zero] at hcj
      have hyj : ys[j]? = some (ys[j]'(by omega)) := List.getElem?_eq_getElem (by omega)
      rw [hyj] at hcj
      obtain ⟨y, hy, _, hwf⟩ := DataW.trod_int (hint j _ hfj) hcj
      simp only [List.cons.injEq, and_true] at hy
      refine ⟨y, hwf, ?_⟩
      rw [← Go.Deep.add_add, hat j hj, List.getElem?_eq_getElem (by omega), hy]
    obtain ⟨y0, _, hy0⟩ := cellOf 0 h0 0 hfs
    have hs : a.spot = none := by simpa [Addr.add] using World.cell?_spot hy0
    have hb := World.block_lt_of_cell? w _ hy0
    obtain ⟨b, off, spot⟩ := a
    simp only at hs
    subst hs
    refine ⟨b, off, rfl, by simpa [Addr.add] using hb, fun i hin j hj => ?_⟩
    obtain ⟨y, hw, hc⟩ := cellOf i hin j hj
    exact ⟨y, hw, by rw [← Go.WideShapes.add_plain]; exact hc⟩

theorem ask_kept {wr w2 : World} {v0 v1 v2 v3 : Value} (hb : Below (wr.alloc (.cells #[v0, v1, v2, v3] 29)).heap.size (wr.alloc (.cells #[v0, v1, v2, v3] 29)) w2) :
    w2.cell? ⟨wr.heap.size, 1, none⟩ = some v1 ∧ w2.cell? ⟨wr.heap.size, 2, none⟩ = some v2 ∧ w2.cell? ⟨wr.heap.size, 3, none⟩ = some v3 := by
  refine ⟨?_, ?_, ?_⟩
  · exact (hb.cell (p := ⟨wr.heap.size, 1, none⟩) (by simp)).trans (by go_simp)
  · exact (hb.cell (p := ⟨wr.heap.size, 2, none⟩) (by simp)).trans (by go_simp)
  · exact (hb.cell (p := ⟨wr.heap.size, 3, none⟩) (by simp)).trans (by go_simp)
theorem old_kept {wr w2 : World} {o : Obj} {p : Addr} {v : Value} (hb : Below (wr.alloc o).heap.size (wr.alloc o) w2) (h : wr.cell? p = some v) : w2.cell? p = some v :=
  (hb.cell (by have := World.block_lt_of_cell? wr p h; simp; omega)).trans ((World.cell?_alloc_lt wr o p (World.block_lt_of_cell? wr p h)).trans h)
theorem cell_kept {w1 w2 : World} {p : Addr} {v : Value} (hb : Below w1.heap.size w1 w2) (h : w1.cell? p = some v) : w2.cell? p = some v :=
  (hb.cell (World.block_lt_of_cell? w1 p h)).trans h

theorem all_walk (A : Option Addr) (n cap : Nat) (w : World) (hcap : n ≤ cap) (hmax : cap ≤ maxLen) (hr : IntRows w A n 4) :
    Calls Try.prog 7 #[.slice A n cap] w fun e w' => e = .returned (.bool true) ∧ Below w.heap.size w w' := by
  unfold maxLen at hmax
  by_cases hbig : 10000 < n
  · go_enter Try.func7, Try.ntmps7
    go_wp2
    go_ret
    exact ⟨rfl, Below.refl _ _⟩
  · have hsmall : n ≤ 10000 := by omega
    have HR := Lib.hid hr
    clear hr hbig
    go_enter Try.func7, Try.ntmps7
    go_wp2_with (go_at_call 11; refine (alive_any _).mono ?_; rintro e w1 ⟨rfl, hb1⟩)
    go_loopw [3, 4] (fun ok i wr => ∃ k : Nat, k ≤ n ∧ i = .int .i64 k ∧ ok = .bool true ∧ Below w.heap.size w wr) (fun _ i _ => n - (intOf i).toNat)
    case atStart => exact ⟨0, by omega, rfl, rfl, hb1⟩
    case round =>
      obtain ⟨k, hk, rfl, rfl, hbw⟩ := hrel
      by_cases hlt : k < n
      · obtain ⟨b, off, hA, hbs, hc⟩ := HR.out (by omega)
        have cell := fun i hi j hj => hc i hi j hj
        obtain ⟨x0, hx0, c0⟩ := hc k hlt 0 (by omega)
        obtain ⟨x1, hx1, c1⟩ := hc k hlt 1 (by omega)
        obtain ⟨x2, hx2, c2⟩ := hc k hlt 2 (by omega)
        obtain ⟨x3, hx3, c3⟩ := hc k hlt 3 (by omega)
        obtain ⟨y1, hy1, c4⟩ := hc 0 (by omega) 1 (by omega)
        have hf3 := (bounds_i64 hx3).2
        have cell0 : wr.cell? ⟨b, off + k * 4, none⟩ = some (.int .i64 x0) := (hbw.cell (p := ⟨b, _, none⟩) hbs).trans c0
        have cell1 : wr.cell? ⟨b, off + k * 4 + 1, none⟩ = some (.int .i64 x1) := (hbw.cell (p := ⟨b, _, none⟩) hbs).trans c1
        have cell2 : wr.cell? ⟨b, off + k * 4 + 2, none⟩ = some (.int .i64 x2) := (hbw.cell (p := ⟨b, _, none⟩) hbs).trans c2
        have cell3 : wr.cell? ⟨b, off + k * 4 + 3, none⟩ = some (.int .i64 x3) := (hbw.cell (p := ⟨b, _, none⟩) hbs).trans c3
        have cell4 : wr.cell? ⟨b, off + 1, none⟩ = some (.int .i64 y1) := (hbw.cell (p := ⟨b, _, none⟩) hbs).trans (by simpa using c4)
        clear HR hc cell c0 c1 c2 c3 c4 hb1 hx0 hx1 hx2 hx3 hy1
        subst hA
        have H1 := Lib.hid (sized_any x1)
        have H2 := Lib.hid (placed_any x1 x2 x3 hf3)
        have H3 := Lib.hid (sized_any y1)
        go_wp2_with (first
          | (go_at_call 12; (with_reducible refine (H1.out _).mono ?_); rintro e w2 ⟨rfl, hb2⟩; obtain ⟨g1, g2, g3⟩ := ask_kept hb2; have g4 := old_kept hb2 cell4)
          | (go_at_call 15; (with_reducible refine (H2.out _).mono ?_); rintro e w3 ⟨rfl, hb3⟩; have g5 := cell_kept hb3 g4)
          | (go_at_call 12; (with_reducible refine (H3.out _).mono ?_); rintro e w4 ⟨rfl, hb4⟩))
        go_roundw
        case rel => exact ⟨k + 1, by omega, by go_num, rfl, hbw.trans (((Below.refl _ _).alloc (Nat.le_refl _) _ |>.trans ((bthen (bthen hb2 hb3) hb4).mono (by simp))).mono hbw.size)⟩
        case measure => simp [intOf]; omega
      · go_wp2
        go_ret
        exact ⟨rfl, hbw⟩
end Go.Proofs.Ytafhbhgmcchihaa
