/- apart, walked. No condition. -/
import Derived.Test.YtcdeimmjhfimjaaAp
namespace Go.Proofs.Ytcdeimmjhfimjaa
open Go.RowKit Go.Proofs.Ytcdeimmjhfimjaa.Pp
set_option linter.unusedVariables false

theorem apart_end {w w1 wD w6 : World} {ow : Nat → Nat} {pg tg rg g cap g' cap' n : Nat} {z : Bool} {f : Nat → Pg} {lv wv sv mv : Value} {LT WT : List Ent} {LL : List LE} {ρ : Nat → Nat} (h1 : Below w.heap.size w w1) (h2 : PairG wD (owx ow w1.heap.size pg) pg z tg rg g cap g' cap' n f lv wv sv mv LT WT LL ρ)
    (h3 : FrP (fun b => ow b = pg) w1 wD) (h4 : Below wD.heap.size wD w6) : PStep w ow pg z w6 :=
  ⟨PairAt.kept ⟨_, _, _, _, _, _, _, _, _, _, _, _, _, _, _, _, h2⟩ (fun b _ hl => h4.block b hl) (fun b hb _ => by
      by_cases hl : b < w.heap.size
      · rw [owx_old (Nat.lt_of_lt_of_le hl h1.size)] at hb
        exact owx_own hb
      · exact owx_new (by omega)),
   ((FrP.of_below h1).trans h3 fun x hx _ => hx).below_then h4⟩

set_option maxRecDepth 100000 in
set_option maxHeartbeats 1600000 in
theorem apart_any {w : World} {ow : Nat → Nat} {pg : Nat} {z : Bool} (hP : PairAt w ow pg z) :
    Calls Try.prog 13 #[.pointer (some ⟨pg, 0, none⟩)] w fun e w' => e = .returned (.bool true) ∧ PStep w ow pg true w' := by
  obtain ⟨tg, rg, g, cap, g', cap', n, f, lv, wv, sv, mv, LT, WT, LL, ρ, hP⟩ := hP
  obtain ⟨AL, cL, hlv⟩ := hP.la.form
  obtain ⟨AW, cW, hwv⟩ := hP.wa.form
  rw [List.length_map] at hlv hwv
  subst hlv
  subst hwv
  have HP := Lib.hid hP
  obtain ⟨NL, hNL⟩ : ∃ N, LT.length = N := ⟨_, rfl⟩
  have hb0 := hP.b0
  rw [hNL] at hb0 hP
  have hNb : NL ≤ 200 := by omega
  have HNL := Lib.hid hNL
  have HB0 := Lib.hid hb0
  have c2 := hP.p6.c2
  clear hP hNL hb0
  go_enter Try.func13, Try.ntmps13
  rw [HNL.out] at HP
  go_wp2_with fail
  go_loopw [3] (fun i wr => ∃ j : Nat, j ≤ NL ∧ i = .int .i64 (j : Int) ∧ Hid (Below w.heap.size w wr)) (fun i _ => NL - (intOf i).toNat)
  case atStart => exact ⟨0, by omega, rfl, Below.refl _ _⟩
  case round =>
    obtain ⟨j, hj, rfl, hB⟩ := hrel
    have HPr := Lib.hid (HP.out.below hB.out)
    have x2 := HPr.out.p6.c2
    have x3 := HPr.out.p6.c3
    by_cases hlt : j < NL
    · have hlw : LT = WT := by
        rcases HPr.out.lw with e | ⟨_, e⟩
        · exact e
        · have := HNL.out
          rw [e] at this
          simp at this
          omega
      obtain ⟨x, hx⟩ : ∃ x, LT[j]? = some x := ⟨LT[j]'(by rw [HNL.out]; exact hlt), List.getElem?_eq_getElem _⟩
      obtain ⟨gL, hAL, y2⟩ := HPr.out.la.at2 (i := j) (u := x.lval) (by rw [List.getElem?_map, hx]; rfl)
      obtain ⟨gW, hAW, y3⟩ := HPr.out.wa.at2 (i := j) (u := x.wval) (by rw [← hlw, List.getElem?_map, hx]; rfl)
      have hm := List.mem_of_getElem? hx
      have hp1 := HPr.out.lp x hm
      have hp2 := (HPr.out.wp x (hlw ▸ hm)).1
      have HW := Lib.hid (show WT.length = NL from by rw [← hlw]; exact HNL.out)
      subst hAL
      subst hAW
      have l2 := HPr.out.la.lt (b := gL) (by simp [ob])
      have l3 := HPr.out.wa.lt (b := gW) (by simp [ob])
      have l1 := heap_lt HPr.out.p6
      obtain ⟨lb, lc, wb, wc, m, u⟩ := x
      unfold Ent.lval at y2
      unfold Ent.wval at y3
      simp only at y2 y3 hp1 hp2
      have HSm := Lib.hid (same_any hp1.1.drew hp2.drew)
      have HLT := Lib.hid (And.intro l1 (And.intro l2 l3))
      rw [HW.out] at x3
      have i0 : (0 : Int) ≤ j := by omega
      have i1 : (j : Int) < NL := by omega
      clear hlw hx hm hp1 hp2 l1 l2 l3
      go_wp2_with fail
      go_region_held3 (fun w' => w'.cell? ⟨pg, 2, none⟩ = some (.slice (some ⟨gL, 0, none⟩) NL cL) ∧ w'.cell? ⟨pg, 3, none⟩ = some (.slice (some ⟨gW, 0, none⟩) NL cW) ∧ w'.cell? ⟨gL, j, none⟩ = some (.slice (some ⟨lb, 0, none⟩) m lc) ∧ w'.cell? ⟨gW, j, none⟩ = some (.slice (some ⟨wb, 0, none⟩) m wc)) (first | exact ⟨x2, x3, y2, y3⟩ | exact ⟨by assumption, by assumption, by assumption, by assumption⟩)
        (first
          | (go_at_call 23
             refine HSm.out.mono ?_
             rintro e w2 ⟨rfl, hB2⟩
             have d0 := hB2.cell (p := ⟨pg, 2, none⟩) HLT.out.1 |>.trans x2
             have d1 := hB2.cell (p := ⟨pg, 3, none⟩) HLT.out.1 |>.trans x3
             have d2 := hB2.cell (p := ⟨gL, j, none⟩) HLT.out.2.1 |>.trans y2
             have d3 := hB2.cell (p := ⟨gW, j, none⟩) HLT.out.2.2 |>.trans y3
             have HB2 := Lib.hid (bthen (hB.out.drew) hB2)
             clear hB2))
      clear x2 x3 y2 y3 d0 d1 d2 d3
      go_wp2_with fail
      go_roundw
      case rel => exact ⟨j + 1, by omega, by go_num, HB2⟩
      case measure => simp [intOf]; omega
    · obtain rfl : NL = j := by omega
      clear hlt hj
      go_wp2_with fail
      obtain ⟨w1, hw1⟩ : ∃ x, x = wr := ⟨_, rfl⟩
      subst hw1
      have HB1 := hB
      have HS0 := Lib.hid (ASt.start HPr.out)
      clear x2 x3
      go_loopw [4] (fun i wx => ∃ (j : Nat) (sv' mv' : Value) (LL' : List LE), j ≤ NL ∧ i = .int .i64 (j : Int) ∧ Hid (ASt w1 wx pg (.pointer (some ⟨tg, 0, none⟩)) (.pointer (some ⟨rg, 0, none⟩)) (.slice AL NL cL) (.slice AW WT.length cW) sv mv LT LL j sv' mv' LL')) (fun i _ => NL - (intOf i).toNat)
      case atStart => exact ⟨0, sv, mv, LL, by omega, rfl, HS0⟩
      case round =>
        obtain ⟨j, sv', mv', LL', hj, rfl, hS⟩ := hrel
        have x2 := hS.out.p6.c2
        by_cases hlt : j < NL
        · obtain ⟨x, hx⟩ : ∃ x, LT[j]? = some x := ⟨LT[j]'(by rw [HNL.out]; exact hlt), List.getElem?_eq_getElem _⟩
          obtain ⟨gL, hAL, y2⟩ := (hS.out.left HPr.out).at2 (i := j) (u := x.lval) (by rw [List.getElem?_map, hx]; rfl)
          obtain ⟨hp, hn, hbl⟩ := hS.out.next HPr.out hx
          subst hAL
          obtain ⟨lb, lc, wb, wc, m, u⟩ := x
          unfold Ent.lval at y2
          simp only at y2 hp hn hbl
          have HMk := Lib.hid (mark_any hS.out.p6 hS.out.mp hp hbl (by have := hS.out.len; have := HB0.out; omega) hn)
          have HX := Lib.hid hx
          have i0 : (0 : Int) ≤ j := by omega
          have i1 : (j : Int) < NL := by omega
          clear hx hp hn hbl
          go_wp2_with fail
          refine HMk.out.mono ?_
          rintro e w2 ⟨rfl, LN, sv2, mv2, hM, hl, hb⟩
          have HS2 := Lib.hid (hS.out.step HX.out hM hl hb)
          clear hM hl hb x2 y2
          go_wp2_with fail
          go_roundw
          case rel => exact ⟨j + 1, sv2, mv2, _, by omega, by go_num, HS2⟩
          case measure => simp [intOf]; omega
        · obtain rfl : NL = j := by omega
          have g2 := hS.out.p6.free 2
          clear hlt hj
          have HD := Lib.hid (hS.out.done HPr.out HB0.out)
          go_wp2_with fail
          clear x2 g2
          obtain ⟨wD, hwD⟩ : ∃ wD, wr.setCell ⟨pg, 2, none⟩ (.slice none 0 0) = wD := ⟨_, rfl⟩
          rw [hwD] at HD ⊢
          clear hwD
          obtain ⟨AS, cS, hsv⟩ := HD.out.1.mp.ls.form
          obtain ⟨AM, cM, hmv⟩ := HD.out.1.mp.ms.form
          rw [List.length_map] at hsv hmv
          subst hsv
          subst hmv
          obtain ⟨NS, hNS⟩ : ∃ N, LL'.length = N := ⟨_, rfl⟩
          rw [hNS] at HD
          have hNSb : NS ≤ 2000 := by
            have := HD.out.1.b0
            omega
          have HNS := Lib.hid hNS
          clear hNS
          go_loopw [5] (fun i wy => ∃ j : Nat, j ≤ NS ∧ i = .int .i64 (j : Int) ∧ Hid (Below wD.heap.size wD wy)) (fun i _ => NS - (intOf i).toNat)
          case atStart => exact ⟨0, by omega, rfl, Below.refl _ _⟩
          case round =>
            obtain ⟨j, hj, rfl, hB⟩ := hrel
            obtain ⟨w2, hw2⟩ : ∃ x, x = wr := ⟨_, rfl⟩
            subst hw2
            have HDy := Lib.hid (HD.out.1.below hB.out)
            have x4 := HDy.out.p6.c4
            have x5 := HDy.out.p6.c5
            by_cases hlt : j < NS
            · obtain ⟨x, hx⟩ : ∃ x, LL'[j]? = some x := ⟨LL'[j]'(by rw [HNS.out]; exact hlt), List.getElem?_eq_getElem _⟩
              obtain ⟨gS, hAS, y4⟩ := HDy.out.mp.ls.at2 (i := j) (u := x.val) (by rw [List.getElem?_map, hx]; rfl)
              obtain ⟨gM, hAM, y5⟩ := HDy.out.mp.ms.at2 (i := j) (u := x.mark) (by rw [List.getElem?_map, hx]; rfl)
              have hm := List.mem_of_getElem? hx
              have hpx := HDy.out.mp.pgs x hm
              have hbm := HDy.out.bm x hm
              subst hAS
              subst hAM
              obtain ⟨b, m, cb, k⟩ := x
              unfold LE.val at y4
              unfold LE.mark at y5
              simp only at y4 y5 hpx hbm
              obtain ⟨m0, m1⟩ := hbm
              have hmax := hpx.max
              unfold maxLen at hmax
              have hcb := hpx.le
              have HPx := Lib.hid hpx
              have i0 : (0 : Int) ≤ j := by omega
              have i1 : (j : Int) < NS := by omega
              clear hx hm hpx
              go_wp2_with fail
              go_loopw [6] (fun i wz => ∃ k : Nat, k ≤ m ∧ i = .int .i64 (k : Int) ∧ Hid (Below w2.heap.size w2 wz)) (fun i _ => m - (intOf i).toNat)
              case atStart => exact ⟨0, by omega, rfl, Below.refl _ _⟩
              case round =>
                obtain ⟨q, hq, rfl, hB2⟩ := hrel
                have HDz := Lib.hid (HDy.out.below hB2.out)
                have z4 := HDz.out.p6.c4
                have z5 := HDz.out.p6.c5
                have t4 := (hB2.out.cell (p := ⟨gS, j, none⟩) (HDy.out.mp.ls.lt (by simp [ob]))).trans y4
                have t5 := (hB2.out.cell (p := ⟨gM, j, none⟩) (HDy.out.mp.ms.lt (by simp [ob]))).trans y5
                have HPz := Lib.hid (HPx.out.below hB2.out)
                by_cases hlq : q < m
                · have v0 := HPz.out.k hlq
                  unfold mkd at v0
                  simp only at v0
                  have j0 : (0 : Int) ≤ q := by omega
                  have j1 : (q : Int) < m := by omega
                  go_wp2_with fail
                  go_quiet (fail)
                  go_wp2_with fail
                  go_roundw
                  case rel => exact ⟨q + 1, by omega, by go_num, below_drewN hB2.out _⟩
                  case measure => simp [intOf]; omega
                · obtain rfl : m = q := by omega
                  clear hlq hq
                  go_wp2_with fail
                  go_roundw
                  case rel => exact ⟨j + 1, by omega, by go_num, bthen hB.out hB2.out⟩
                  case measure => simp [intOf]; omega
            · obtain rfl : NS = j := by omega
              clear hlt hj x5
              have x0 := HDy.out.p6.c0
              have x1 := HDy.out.p6.c1
              have x6 := HDy.out.rtab.c0
              obtain ⟨l, hTl⟩ := HDy.out.tab
              have HAll := Lib.hid (all_any hTl.drew)
              have HLt := Lib.hid (And.intro (heap_lt HDy.out.p6) HDy.out.rtab.lt)
              have HRp := Lib.hid HDy.out.rtab.pg.drew
              clear hTl
              go_wp2_with fail
              go_region_held3 (fun w' => w'.cell? ⟨pg, 0, none⟩ = some (.pointer (some ⟨tg, 0, none⟩)) ∧ w'.cell? ⟨pg, 1, none⟩ = some (.pointer (some ⟨rg, 0, none⟩)) ∧ w'.cell? ⟨rg, 0, none⟩ = some (.slice (some ⟨g', 0, none⟩) n cap')) (first | exact ⟨x0, x1, x6⟩ | exact ⟨by assumption, by assumption, by assumption⟩)
                (first
                  | (go_at_call 22
                     refine HAll.out.mono ?_
                     rintro e w5 ⟨g1, cap1, rfl, hPg, hg1, hB5⟩
                     have d0 := hB5.cell (p := ⟨pg, 0, none⟩) HLt.out.1 |>.trans x0
                     have d1 := hB5.cell (p := ⟨pg, 1, none⟩) HLt.out.1 |>.trans x1
                     have d2 := hB5.cell (p := ⟨rg, 0, none⟩) HLt.out.2 |>.trans x6
                     have HSm := Lib.hid (same_any hPg (HRp.out.below hB5))
                     have HB5 := Lib.hid (bthen hB.out.drew hB5)
                     have HB5w := Lib.hid hB5.size
                     clear hPg hg1 hB5)
                  | (go_at_call 23
                     refine HSm.out.mono ?_
                     rintro e w6 ⟨rfl, hB6⟩
                     have e0 := hB6.cell (p := ⟨pg, 0, none⟩) (Nat.lt_of_lt_of_le HLt.out.1 HB5w.out) |>.trans d0
                     have e1 := hB6.cell (p := ⟨pg, 1, none⟩) (Nat.lt_of_lt_of_le HLt.out.1 HB5w.out) |>.trans d1
                     have e2 := hB6.cell (p := ⟨rg, 0, none⟩) (Nat.lt_of_lt_of_le HLt.out.2 HB5w.out) |>.trans d2
                     have HB6 := Lib.hid (bthen HB5.out hB6)
                     clear hB6))
              clear x0 x1 x4 x6 d0 d1 d2 e0 e1 e2
              go_wp2_with fail
              go_ret
              exact ⟨rfl, apart_end HB1.out HD.out.1 HD.out.2 HB6.out⟩
end Go.Proofs.Ytcdeimmjhfimjaa
