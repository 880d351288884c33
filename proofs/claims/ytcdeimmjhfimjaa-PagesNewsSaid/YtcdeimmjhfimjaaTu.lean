/- made and turned, walked. No condition. -/
import Derived.Test.YtcdeimmjhfimjaaPr
import Derived.RangeFuncRecord
namespace Go.Proofs.Ytcdeimmjhfimjaa
open Go.RowKit Go.Proofs.Ytcdeimmjhfimjaa.Pp
set_option linter.unusedVariables false

def MadeP (w : World) (e : Ending) (w' : World) : Prop :=
  ∃ pg, e = .returned (.tuple #[.pointer (some ⟨pg, 0, none⟩), .bool true]) ∧ w.heap.size ≤ pg ∧ Below w.heap.size w w' ∧ ∀ ow, PairAt w' (owx ow w.heap.size pg) pg false

set_option maxRecDepth 100000 in
set_option maxHeartbeats 800000 in
theorem made_any (n : Nat) (h1 : 1 ≤ n) (h4 : n ≤ 4096) (w : World) : Calls Try.prog 10 #[.int .i64 (n : Int)] w (MadeP w) := by
  go_enter Try.func10, Try.ntmps10
  go_wp2_with fail
  refine (new_any n h1 h4 _).mono ?_
  rintro e w1 ⟨tg, g, rfl, hT, ht, hg, hB⟩
  have HT := Lib.hid hT
  have HB := Lib.hid hB
  have HL := Lib.hid (And.intro ht hg)
  clear hT hB ht hg
  go_wp2_with fail
  refine (rnew_any n h1 h4 _).mono ?_
  rintro e w2 ⟨rg, g', rfl, hR, hr, hg', hB⟩
  have HT2 := Lib.hid (HT.out.below hB)
  have HB2 := Lib.hid (bthen HB.out hB)
  have HR2 := Lib.hid hR
  have HL2 := Lib.hid (And.intro (Nat.le_trans HB.out.size hr) (Nat.le_trans HB.out.size hg'))
  have HG := Lib.hid (show g ≠ g' from by
    obtain ⟨l, hT⟩ := HT.out
    have := hT.pg.lt
    omega)
  have HS := Lib.hid HB2.out.size
  clear hR hr hg' hB
  go_wp2_with fail
  go_ret2
  refine ⟨w2.heap.size, rfl, HS.out, HB2.out.alloc HS.out _, fun ow => ?_⟩
  have hb : Below w2.heap.size w2 (w2.alloc (Obj.cells #[.pointer (some ⟨tg, 0, none⟩), .pointer (some ⟨rg, 0, none⟩), .slice none 0 0, .slice none 0 0, .slice none 0 0, .slice none 0 0] 60)) := (Below.refl _ _).alloc (Nat.le_refl _) _
  exact PairG.fresh (World.alloc_heap_new _ _) (HT2.out.below hb) (HR2.out.below hb) ⟨owx_new HS.out, owx_new HL.out.1, owx_new HL2.out.1, owx_new HL.out.2, owx_new HL2.out.2⟩ HG.out

set_option maxRecDepth 100000 in
set_option maxHeartbeats 800000 in
theorem made_bad (n : Int) (hn : n < 1 ∨ 4096 < n) (w : World) : Calls Try.prog 10 #[.int .i64 n] w fun e w' => e = .returned (.tuple #[.pointer none, .bool true]) ∧ w = w' := by
  go_enter Try.func10, Try.ntmps10
  go_wp2_with fail
  refine (new_bad n hn _).mono ?_
  rintro e w1 ⟨rfl, rfl⟩
  go_wp2_with fail
  refine (rnew_bad n hn _).mono ?_
  rintro e w1 ⟨rfl, rfl⟩
  go_wp2_with fail
  go_ret2
  exact ⟨rfl, rfl⟩

theorem cell_fr {L : List Nat} {w w' : World} {p : Addr} {v : Value} (h : Fr L w w') (hn : p.block ∉ L) (hl : p.block < w.heap.size) (hc : w.cell? p = some v) : w'.cell? p = some v := by
  unfold World.cell? at hc ⊢
  rw [h.block p.block hl hn]
  exact hc
theorem Tab.drew {w : World} {tg g n cap : Nat} {f : Nat → Pg} (h : Tab w tg g n cap f) : Tab w.drew tg g n cap f := by
  obtain ⟨l, h⟩ := h
  exact ⟨l, h.drew⟩
theorem RTab.drew {w : World} {tg g n cap : Nat} {f : Nat → Pg} (h : RTab w tg g n cap f) : RTab w.drew tg g n cap f := ⟨h.blk, h.pg.drew, h.wf, h.n1, h.n4⟩
theorem RTab.alloc {w : World} {tg g n cap : Nat} {f : Nat → Pg} (h : RTab w tg g n cap f) (o : Obj) : RTab (w.alloc o) tg g n cap f := h.below ((Below.refl _ _).alloc (Nat.le_refl _) o)
theorem turned_end {w w' : World} {ow : Nat → Nat} {pg tg rg g cap g' cap' n : Nat} {z : Bool} {f f' : Nat → Pg} {lv wv sv mv : Value} {LT WT : List Ent} {LL : List LE} {ρ : Nat → Nat} (h : PairG w ow pg z tg rg g cap g' cap' n f lv wv sv mv LT WT LL ρ) (hT : Tab w' tg g n cap f') (hR : RTab w' rg g' n cap' f') (hf : Fr [tg, g, g'] w w') : PStep w ow pg z w' := by
  have h1 := h.tabs hT hR hf
  obtain ⟨o1, o2, o3, o4, o5⟩ := h.o5
  exact ⟨⟨_, _, _, _, _, _, _, _, _, _, _, _, _, _, _, _, h1.kept (fun _ _ _ => rfl) fun b hb _ => owx_own hb⟩, FrP.of_fr hf fun x hx => by
    simp at hx
    rcases hx with rfl | rfl | rfl
    · exact .inl o2
    · exact .inl o4
    · exact .inl o5⟩

theorem twice {w w1 w2 w3 : World} {tg g g' : Nat} (h : Fr [tg, g, g'] w w1) (h2 : Fr [tg, g] w1.drew w2) (h3 : Fr [g'] w2.drew w3) : Fr [tg, g, g'] w w3 :=
  ((h.drew.trans (h2.more fun x _ hx => by simp at hx ⊢; omega)).drew).trans (h3.more fun x _ hx => by simp at hx ⊢; omega)

set_option maxRecDepth 100000 in
set_option maxHeartbeats 1600000 in
theorem turned_any {w : World} {ow : Nat → Nat} {pg : Nat} (hP : PairAt w ow pg false) (a k c : Int) :
    Calls Try.prog 35 #[.pointer (some ⟨pg, 0, none⟩), .agg #[.int .i64 a, .int .i64 k, .int .i64 c]] w fun e w' => e = .returned (.bool true) ∧ PStep w ow pg false w' := by
  obtain ⟨tg, rg, g, cap, g', cap', n, f, lv, wv, sv, mv, LT, WT, LL, ρ, hP⟩ := hP
  have HP := Lib.hid hP
  have hA : P6 (w.alloc (Obj.cells #[.int .i64 a, .int .i64 k, .int .i64 c] 28)) pg _ _ _ _ _ _ := hP.p6.alloc _
  have c0 := hA.c0
  have c1 := hA.c1
  obtain ⟨l, hTl⟩ := hP.tab
  have HN := Lib.hid (show (pg ≠ tg ∧ pg ≠ g ∧ pg ≠ g') ∧ (tg < w.heap.size ∧ g < w.heap.size ∧ g' < w.heap.size ∧ pg < w.heap.size) ∧ (rg ≠ tg ∧ rg ≠ g) ∧ (g' ≠ tg ∧ g' ≠ g) from
    ⟨⟨heap_ne hP.p6 hTl.blk (by decide), fun e => hTl.pg.ne_p6 hP.p6 e.symm, fun e => hP.rtab.pg.ne_p6 hP.p6 e.symm⟩, ⟨hTl.lt, hTl.pg.lt, hP.rtab.pg.lt, heap_lt hP.p6⟩,
     ⟨heap_ne hP.rtab.blk hTl.blk (by decide), fun e => by
        obtain ⟨cur, hb⟩ := hTl.pg.blk47
        exact heap_ne hP.rtab.blk hb (by decide) e⟩, ⟨fun e => hTl.blk.ne hP.rtab.pg e.symm, fun e => by
        have h0 := hP.r0
        have h1 := hP.r1
        rw [e, h0] at h1
        cases h1⟩⟩)
  clear hA hP hTl
  have HT := Lib.hid ((HP.out.tab.alloc (Obj.cells #[.int .i64 a, .int .i64 k, .int .i64 c] 28)))
  have HR := Lib.hid ((HP.out.rtab.alloc (Obj.cells #[.int .i64 a, .int .i64 k, .int .i64 c] 28)))
  have H0 := Lib.hid (Fr.alloc (Fr.refl [tg, g, g'] w) (Obj.cells #[.int .i64 a, .int .i64 k, .int .i64 c] 28))
  have c2 : (w.alloc (Obj.cells #[.int .i64 a, .int .i64 k, .int .i64 c] 28)).cell? ⟨w.heap.size, 2, none⟩ = some (.int .i64 c) := heap_cell (World.alloc_heap_new _ _) 2
  have HS := Lib.hid (show w.heap.size < (w.alloc (Obj.cells #[.int .i64 a, .int .i64 k, .int .i64 c] 28)).heap.size by simp)
  go_enter Try.func35, Try.ntmps35
  by_cases k1 : k = 1
  · subst k1
    go_wp2_with fail
    go_region_held3 (fun w' => w'.cell? ⟨pg, 0, none⟩ = some (.pointer (some ⟨tg, 0, none⟩)) ∧ w'.cell? ⟨pg, 1, none⟩ = some (.pointer (some ⟨rg, 0, none⟩)) ∧ w'.cell? ⟨w.heap.size, 2, none⟩ = some (.int .i64 c)) (first | exact ⟨c0, c1, c2⟩ | exact ⟨by assumption, by assumption, by assumption⟩)
      (first
        | (go_at_call 16
           refine (takeClass_tot HT.out.drew _).mono ?_
           rintro e w2 ⟨rfl, hT, hF⟩
           have d0 := cell_fr hF (by simp [HN.out]) (by simp; have := HN.out; omega) c0
           have d1 := cell_fr hF (by simp [HN.out]) (by simp; have := HN.out; omega) c1
           have d2 := cell_fr hF (by simp; have := HN.out; omega) HS.out c2
           have HR2 := Lib.hid (HR.out.drew.fr hF (by simp [HN.out]) (by simp [HN.out]))
           have HS2 := Lib.hid (Nat.lt_of_lt_of_le HS.out hF.size)
           have HT2 := Lib.hid hT
           have HF2 := Lib.hid hF
           clear hT hF))
    clear c0 c1 c2
    go_wp2_with fail
    go_region_held3 (fun w' => w'.cell? ⟨pg, 1, none⟩ = some (.pointer (some ⟨rg, 0, none⟩)) ∧ w'.cell? ⟨w.heap.size, 2, none⟩ = some (.int .i64 c)) (first | exact ⟨d1, d2⟩ | exact ⟨by assumption, by assumption⟩)
      (first
        | (go_at_call 39
           refine (rtakeClass_tot HR2.out.drew _).mono ?_
           rintro e w3 ⟨rfl, hR, hF⟩
           have e1 := cell_fr hF (by simp [HN.out]) (by simp; have := HN.out; have := HS2.out; omega) d1
           have e2 := cell_fr hF (by simp; have := HN.out; omega) HS2.out d2
           have HT3 := Lib.hid (HT2.out.drew.fr hF (by simp; have := HN.out; omega) (by simp; have := HN.out; omega))
           have HR3 := Lib.hid hR
           have HF3 := Lib.hid hF
           clear hR hF))
    clear d0 d1 d2 e1 e2
    go_wp2_with fail
    go_ret
    exact ⟨rfl, turned_end HP.out HT3.out HR3.out (twice H0.out HF2.out HF3.out)⟩
  by_cases k2 : k = 2
  · subst k2
    go_wp2_with fail
    go_region_held3 (fun w' => w'.cell? ⟨pg, 0, none⟩ = some (.pointer (some ⟨tg, 0, none⟩)) ∧ w'.cell? ⟨pg, 1, none⟩ = some (.pointer (some ⟨rg, 0, none⟩)) ∧ w'.cell? ⟨w.heap.size, 2, none⟩ = some (.int .i64 c)) (first | exact ⟨c0, c1, c2⟩ | exact ⟨by assumption, by assumption, by assumption⟩)
      (first
        | (go_at_call 17
           refine (takeRun_tot HT.out.drew _).mono ?_
           rintro e w2 ⟨rfl, hT, hF⟩
           have d0 := cell_fr hF (by simp [HN.out]) (by simp; have := HN.out; omega) c0
           have d1 := cell_fr hF (by simp [HN.out]) (by simp; have := HN.out; omega) c1
           have d2 := cell_fr hF (by simp; have := HN.out; omega) HS.out c2
           have HR2 := Lib.hid (HR.out.drew.fr hF (by simp [HN.out]) (by simp [HN.out]))
           have HS2 := Lib.hid (Nat.lt_of_lt_of_le HS.out hF.size)
           have HT2 := Lib.hid hT
           have HF2 := Lib.hid hF
           clear hT hF))
    clear c0 c1 c2
    go_wp2_with fail
    go_region_held3 (fun w' => w'.cell? ⟨pg, 1, none⟩ = some (.pointer (some ⟨rg, 0, none⟩)) ∧ w'.cell? ⟨w.heap.size, 2, none⟩ = some (.int .i64 c)) (first | exact ⟨d1, d2⟩ | exact ⟨by assumption, by assumption⟩)
      (first
        | (go_at_call 40
           refine (rtakeRun_tot HR2.out.drew _).mono ?_
           rintro e w3 ⟨rfl, hR, hF⟩
           have e1 := cell_fr hF (by simp [HN.out]) (by simp; have := HN.out; have := HS2.out; omega) d1
           have e2 := cell_fr hF (by simp; have := HN.out; omega) HS2.out d2
           have HT3 := Lib.hid (HT2.out.drew.fr hF (by simp; have := HN.out; omega) (by simp; have := HN.out; omega))
           have HR3 := Lib.hid hR
           have HF3 := Lib.hid hF
           clear hR hF))
    clear d0 d1 d2 e1 e2
    go_wp2_with fail
    go_ret
    exact ⟨rfl, turned_end HP.out HT3.out HR3.out (twice H0.out HF2.out HF3.out)⟩
  by_cases k3 : k = 3
  · subst k3
    go_wp2_with fail
    go_region_held3 (fun w' => w'.cell? ⟨pg, 0, none⟩ = some (.pointer (some ⟨tg, 0, none⟩)) ∧ w'.cell? ⟨pg, 1, none⟩ = some (.pointer (some ⟨rg, 0, none⟩)) ∧ w'.cell? ⟨w.heap.size, 2, none⟩ = some (.int .i64 c)) (first | exact ⟨c0, c1, c2⟩ | exact ⟨by assumption, by assumption, by assumption⟩)
      (first
        | (go_at_call 19
           refine (give_any HT.out.drew _).mono ?_
           rintro e w2 ⟨rfl, hT, hF⟩
           have d0 := cell_fr hF (by simp [HN.out]) (by simp; have := HN.out; omega) c0
           have d1 := cell_fr hF (by simp [HN.out]) (by simp; have := HN.out; omega) c1
           have d2 := cell_fr hF (by simp; have := HN.out; omega) HS.out c2
           have HR2 := Lib.hid (HR.out.drew.fr hF (by simp [HN.out]) (by simp [HN.out]))
           have HS2 := Lib.hid (Nat.lt_of_lt_of_le HS.out hF.size)
           have HT2 := Lib.hid hT
           have HF2 := Lib.hid hF
           clear hT hF))
    clear c0 c1 c2
    go_wp2_with fail
    go_region_held3 (fun w' => w'.cell? ⟨pg, 1, none⟩ = some (.pointer (some ⟨rg, 0, none⟩)) ∧ w'.cell? ⟨w.heap.size, 2, none⟩ = some (.int .i64 c)) (first | exact ⟨d1, d2⟩ | exact ⟨by assumption, by assumption⟩)
      (first
        | (go_at_call 41
           refine (rgive_any HR2.out.drew _).mono ?_
           rintro e w3 ⟨rfl, hR, hF⟩
           have e1 := cell_fr hF (by simp [HN.out]) (by simp; have := HN.out; have := HS2.out; omega) d1
           have e2 := cell_fr hF (by simp; have := HN.out; omega) HS2.out d2
           have HT3 := Lib.hid (HT2.out.drew.fr hF (by simp; have := HN.out; omega) (by simp; have := HN.out; omega))
           have HR3 := Lib.hid hR
           have HF3 := Lib.hid hF
           clear hR hF))
    clear d0 d1 d2 e1 e2
    go_wp2_with fail
    go_ret
    exact ⟨rfl, turned_end HP.out HT3.out HR3.out (twice H0.out HF2.out HF3.out)⟩
  have q1 : (k == 1) = false := by simp [k1]
  have q2 : (k == 2) = false := by simp [k2]
  have q3 : (k == 3) = false := by simp [k3]
  go_wp2_with fail
  go_ret
  exact ⟨rfl, turned_end HP.out HT.out HR.out H0.out⟩
end Go.Proofs.Ytcdeimmjhfimjaa
