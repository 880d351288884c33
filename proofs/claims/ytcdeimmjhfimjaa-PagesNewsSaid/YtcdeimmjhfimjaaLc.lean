/- looked, walked, for the kind 12. No condition. -/
import Derived.Test.YtcdeimmjhfimjaaLe
import Derived.Test.YtcdeimmjhfimjaaOd
namespace Go.Proofs.Ytcdeimmjhfimjaa
open Go.RowKit Go.Proofs.Ytcdeimmjhfimjaa.Pp
set_option linter.unusedVariables false
set_option linter.unusedSimpArgs false

set_option maxRecDepth 100000 in
set_option maxHeartbeats 6400000 in
theorem looked_12 {w : World} {ow : Nat → Nat} {pg : Nat} (hP : PairAt w ow pg false) (a c : Int) :
    Calls Try.prog 12 #[.pointer (some ⟨pg, 0, none⟩), .agg #[.int .i64 a, .int .i64 12, .int .i64 c]] w fun e w' => e = .returned (.bool true) ∧ PStep w ow pg false w' := by
  have HPA := Lib.hid hP
  obtain ⟨tg, rg, g, cap, g', cap', n, f, lv, wv, sv, mv, LT, WT, LL, ρ, hP⟩ := hP
  obtain ⟨AL, cL, hlv⟩ := hP.la.form
  obtain ⟨AW, cW, hwv⟩ := hP.wa.form
  obtain ⟨AS, cS, hsv⟩ := hP.mp.ls.form
  obtain ⟨AM, cM, hmv⟩ := hP.mp.ms.form
  have hLW : LT = WT := hP.lw.elim id fun h => by cases h.1
  subst hLW
  obtain ⟨NL, hNL⟩ : ∃ N, LT.length = N := ⟨_, rfl⟩
  obtain ⟨NS, hNS⟩ : ∃ N, LL.length = N := ⟨_, rfl⟩
  rw [List.length_map] at hlv hwv hsv hmv
  rw [hNL] at hlv hwv
  rw [hNS] at hsv hmv
  subst hlv
  subst hwv
  subst hsv
  subst hmv
  have hb := hP.b1 rfl
  rw [hNL, hNS] at hb
  have n1 := hP.rtab.n1
  have n4 := hP.rtab.n4
  have hNS2 : NS ≤ 617 := hb.1
  have hNL2 : NL ≤ 68 := by omega
  have HNL := Lib.hid hNL
  have HNS := Lib.hid hNS
  have HP := Lib.hid hP
  obtain ⟨l, hTl⟩ := hP.tab
  have hbx : Below w.heap.size w (w.alloc (Obj.cells #[.int .i64 a, .int .i64 12, .int .i64 c] 28)) := (Below.refl _ _).alloc (Nat.le_refl _) _
  have HB0 := Lib.hid hbx
  have hP0 := hP.below hbx
  have c0 := hP0.p6.c0
  have HTl := Lib.hid hTl
  have HAll := Lib.hid (all_any (hTl.below hbx))
  clear hNL hNS hb hP hTl hbx hP0
  go_enter Try.func12, Try.ntmps12
  go_wp2_with fail
  refine HAll.out.mono ?_
  rintro e w1 ⟨bl, cl, rfl, hPl, hbl, hB⟩
  have HB1 := Lib.hid (bthen HB0.out hB)
  have hP1 := HP.out.below HB1.out
  have d1 := hP1.p6.c1
  have d2 := hP1.rtab.c0
  have HPl := Lib.hid hPl
  have HBl := Lib.hid (show w.heap.size ≤ bl from by have := HB0.out.size; omega)
  have HSm := Lib.hid (same_any hPl hP1.rtab.pg)
  clear hPl hbl hB hP1 c0
  go_wp2_with fail
  refine HSm.out.mono ?_
  rintro e w2 ⟨rfl, hB⟩
  have HB2 := Lib.hid (bthen HB1.out hB)
  have hP2 := HP.out.below HB2.out
  have e0 := hP2.p6.c0
  have e1 := hP2.p6.c1
  have e2 := hP2.p6.c2
  have e3 := hP2.p6.c3
  have e4 := hP2.p6.c4
  have HP2 := Lib.hid hP2
  have HPl2 := Lib.hid (HPl.out.below hB)
  clear hB hP2 d1 d2
  by_cases hs : NS < 600 ∧ n ≤ 64
  · obtain ⟨s1, s2⟩ := hs
    have q1 : (NS : Int) < 600 := by omega
    have q2 : (n : Int) ≤ 64 := by omega
    have HT2 := Lib.hid (HTl.out.below HB2.out)
    have HN4 := Lib.hid (show (LT.map Ent.lval).length + 2 ≤ 1000000 from by rw [List.length_map, HNL.out]; omega)
    have HN5 := Lib.hid (show (LT.map Ent.lval).length + 2 = NL + 2 from by rw [List.length_map, HNL.out])
    go_upto_region 13 with (fail)
    go_cut [] (fun wc => ∃ b1 c1 b2 c2 g c, Hid (Left1 w2 wc pg NL (.pointer (some ⟨tg, 0, none⟩)) (.pointer (some ⟨rg, 0, none⟩)) (.slice AL NL cL) (.slice AW NL cW) (.slice AS NS cS) (.slice AM NS cM) (LT.map Ent.lval) n f b1 c1 b2 c2 g c))
    case first =>
      go_wp2_with fail
      go_region_law (first
        | (refine step_grow rfl (.tmp 103) (.tmp 114) 57 rfl 43 _ 24 Try.underlying57 info43 rfl (by omega) (.slice AL NL cL) _ (by simp [Act.eval]) HA4.out ⟨w4.heap.size, 0, none⟩ 2 2 [.slice (some ⟨b1, 0, none⟩) n c1, .slice (some ⟨b2, 0, none⟩) n c2] rfl (by omega) (by simp [Act.eval]) (World.news_of_block (World.alloc_heap_new _ _)) (by simp [Value.oneCell']) HN4.out (NL + 2) HN5.out ?_
           intro g5 c5 w5 hA hF hO
           have hk := left_done HP2.out.p6 HP2.out.la HL4.out.2.2.2 HL4.out.1 HL4.out.2.1 HL4.out.2.2.1 hA hF hO
           have k2 := hk.1.c2
           have kf := hk.1.free 2
           have HL1 := Lib.hid hk.2
           clear hk hA hF hO)
        | (go_simp
           go_at_call 22
           refine (all_any HT2.out.drew).mono ?_
           rintro e w3 ⟨b1, c1, rfl, hP1, hb1, hB3⟩
           have HL3 := Lib.hid (And.intro hP1 (And.intro hb1 (bthen ((Below.refl _ _).drew) hB3)))
           have hP6 := HP2.out.p6.below HL3.out.2.2
           have x0 := hP6.c0
           have x2 := hP6.c2
           have HT3 := Lib.hid (HT2.out.below HL3.out.2.2)
           clear hP1 hb1 hB3 hP6
           dsimp only)
        | (go_simp
           go_at_call 22
           refine (all_any HT3.out).mono ?_
           rintro e w4 ⟨b2, c2, rfl, hP2, hb2, hB4⟩
           have HL4 := Lib.hid (show PgAt w4 b1 n c1 f ∧ PgAt w4 b2 n c2 f ∧ (w2.heap.size ≤ b1 ∧ b1 < b2) ∧ Below w2.heap.size w2 w4 from by
             have h1 := HL3.out.1.lt
             have h2 : b1 = w2.heap.size := HL3.out.2.1
             exact ⟨HL3.out.1.below hB4, hP2, ⟨by omega, by omega⟩, bthen HL3.out.2.2 hB4⟩)
           have hP6 := HP2.out.p6.below HL4.out.2.2.2
           have y2 := hP6.c2
           have y3 := (hP6.alloc (Obj.cells #[.slice (some ⟨b1, 0, none⟩) n c1, .slice (some ⟨b2, 0, none⟩) n c2] 43)).c2
           have HA4 := Lib.hid ((HP2.out.la.below HL4.out.2.2.2).alloc (Obj.cells #[.slice (some ⟨b1, 0, none⟩) n c1, .slice (some ⟨b2, 0, none⟩) n c2] 43))
           clear hP2 hb2 hB4 hP6
           dsimp only))
      all_goals
        go_wp2_with fail
        go_meet
        exact ⟨_, _, _, _, _, _, HL1⟩
    case rest =>
      obtain ⟨b1, c1, b2, c2, g1, cg, HL1⟩ := hcut
      obtain ⟨wC, hwC⟩ : ∃ x, x = wc := ⟨_, rfl⟩
      subst hwC
      have hRc : RTab wC rg g' n cap' f := by
        obtain ⟨cur, hb⟩ := HP2.out.rtab.pg.blk47
        exact HP2.out.rtab.fr HL1.out.fr (by
          simp only [List.mem_cons, not_or]
          exact ⟨heap_ne HP2.out.rtab.blk HP2.out.p6 (by decide), HP2.out.la.ne HP2.out.rtab.blk (by decide)⟩) (by
          simp only [List.mem_cons, not_or]
          exact ⟨heap_ne hb HP2.out.p6 (by decide), HP2.out.la.ne hb (by decide)⟩)
      have hAw : Arr wC 43 (.slice AW NL cW) (LT.map Ent.wval) := HP2.out.wa.fr HL1.out.fr (fun b hb => by
        obtain ⟨cur, hc⟩ := HP2.out.wa.blk hb
        simp only [List.mem_cons, not_or]
        refine ⟨heap_ne hc HP2.out.p6 (by decide), fun hx => ?_⟩
        have h1 := HP2.out.rl b hx
        have h2 := HP2.out.rw_ b hb
        omega)
      have HRc := Lib.hid hRc
      have HAw := Lib.hid hAw
      have z1 := HL1.out.p6.c1
      have z3 := HL1.out.p6.c3
      have zr := hRc.c0
      have HM4 := Lib.hid (show (LT.map Ent.wval).length + 2 ≤ 1000000 from by rw [List.length_map, HNL.out]; omega)
      have HM5 := Lib.hid (show (LT.map Ent.wval).length + 2 = NL + 2 from by rw [List.length_map, HNL.out])
      clear hRc hAw e0 e1 e2 e3 e4
      go_upto_region 14 with (fail)
      go_cut [] (fun wd => ∃ b3 c3 b4 c4 g c, Hid (Right1 wC wd pg NL (.pointer (some ⟨tg, 0, none⟩)) (.pointer (some ⟨rg, 0, none⟩)) (.slice (some ⟨g1, 0, none⟩) (NL + 2) cg) (.slice AW NL cW) (.slice AS NS cS) (.slice AM NS cM) (LT.map Ent.wval) n f b3 c3 b4 c4 g c))
      case first =>
        go_wp2_with fail
        refine wp_region_T (d := 25) (T := fun _ => True) (C := fun w' => w'.cell? ⟨pg, 1, none⟩ = some (.pointer (some ⟨rg, 0, none⟩)) ∧ w'.cell? ⟨rg, 0, none⟩ = some (.slice (some ⟨g', 0, none⟩) n cap') ∧ w'.cell? ⟨pg, 3, none⟩ = some (.slice AW NL cW)) (by kernel_rfl) ?_
        have HC : Hid (wC.drew.cell? ⟨pg, 1, none⟩ = some (.pointer (some ⟨rg, 0, none⟩)) ∧ wC.drew.cell? ⟨rg, 0, none⟩ = some (.slice (some ⟨g', 0, none⟩) n cap') ∧ wC.drew.cell? ⟨pg, 3, none⟩ = some (.slice AW NL cW)) := Lib.hid ⟨z1, zr, z3⟩
        refine wpAnyT_take (i := 0) (v := ?_) rfl (by kernel_rfl) (by kernel_rfl) (by kernel_rfl) (fun _ _ _ h => h) (by decide) (Or.inl ⟨by rfl, ?_⟩) ⟨True.intro, fun _ => HC.out⟩ ?_
        rotate_left
        · intro w _
          go_simp
          try with_reducible rfl
        try simp only [Act.put, List.setIfInBounds_toArray, List.set_cons_zero, List.set_cons_succ]
        refine wpAnyT_take (i := 1) (v := ?_) rfl (by kernel_rfl) (by kernel_rfl) (by kernel_rfl) (fun _ _ _ h => h) (by decide) (Or.inl ⟨by rfl, ?_⟩) ⟨True.intro, fun _ => HC.out⟩ ?_
        rotate_left
        · intro w _
          go_simp
          try with_reducible rfl
        try simp only [Act.put, List.setIfInBounds_toArray, List.set_cons_zero, List.set_cons_succ]
        refine wpAnyT_take (i := 2) (v := ?_) rfl (by kernel_rfl) (by kernel_rfl) (by kernel_rfl) (fun _ _ _ h => h) (by decide) (Or.inl ⟨by rfl, ?_⟩) ⟨True.intro, fun _ => HC.out⟩ ?_
        rotate_left
        · intro w _
          go_simp
          try with_reducible rfl
        try simp only [Act.put, List.setIfInBounds_toArray, List.set_cons_zero, List.set_cons_succ]
        refine wpAnyT_take (i := 3) (v := ?_) rfl (by kernel_rfl) (by kernel_rfl) (by kernel_rfl) (fun _ _ _ h => h) (by decide) (Or.inl ⟨by rfl, ?_⟩) ⟨True.intro, fun _ => HC.out⟩ ?_
        rotate_left
        · intro w _
          go_simp
          try with_reducible rfl
        try simp only [Act.put, List.setIfInBounds_toArray, List.set_cons_zero, List.set_cons_succ]
        refine wpAnyT_load (i := 4) (v := ?_) rfl (by kernel_rfl) (by kernel_rfl) (by kernel_rfl) (fun _ _ _ h => h) (by decide) rfl (by kernel_rfl) (by kernel_rfl) (Or.inl ⟨by rfl, ?_⟩) ⟨True.intro, fun _ => HC.out⟩ ?_
        rotate_left
        · intro w hSw
          obtain ⟨_, hs1, hs2, hs3⟩ := hSw
          go_simp
          try with_reducible rfl
        try simp only [Act.put, List.setIfInBounds_toArray, List.set_cons_zero, List.set_cons_succ]
        refine wpAnyT_take (i := 5) (v := ?_) rfl (by kernel_rfl) (by kernel_rfl) (by kernel_rfl) (fun _ _ _ h => h) (by decide) (Or.inl ⟨by rfl, ?_⟩) ⟨True.intro, fun _ => HC.out⟩ ?_
        rotate_left
        · intro w _
          go_simp
          try with_reducible rfl
        try simp only [Act.put, List.setIfInBounds_toArray, List.set_cons_zero, List.set_cons_succ]
        refine wpAnyT_take (i := 6) (v := ?_) rfl (by kernel_rfl) (by kernel_rfl) (by kernel_rfl) (fun _ _ _ h => h) (by decide) (Or.inl ⟨by rfl, ?_⟩) ⟨True.intro, fun _ => HC.out⟩ ?_
        rotate_left
        · intro w _
          go_simp
          try with_reducible rfl
        try simp only [Act.put, List.setIfInBounds_toArray, List.set_cons_zero, List.set_cons_succ]
        refine wpAnyT_take (i := 7) (v := ?_) rfl (by kernel_rfl) (by kernel_rfl) (by kernel_rfl) (fun _ _ _ h => h) (by decide) (Or.inl ⟨by rfl, ?_⟩) ⟨True.intro, fun _ => HC.out⟩ ?_
        rotate_left
        · intro w _
          go_simp
          try with_reducible rfl
        try simp only [Act.put, List.setIfInBounds_toArray, List.set_cons_zero, List.set_cons_succ]
        refine wpAnyT_load (i := 8) (v := ?_) rfl (by kernel_rfl) (by kernel_rfl) (by kernel_rfl) (fun _ _ _ h => h) (by decide) rfl (by kernel_rfl) (by kernel_rfl) (Or.inl ⟨by rfl, ?_⟩) ⟨True.intro, fun _ => HC.out⟩ ?_
        rotate_left
        · intro w hSw
          obtain ⟨_, hs1, hs2, hs3⟩ := hSw
          go_simp
          try with_reducible rfl
        try simp only [Act.put, List.setIfInBounds_toArray, List.set_cons_zero, List.set_cons_succ]
        refine wpAnyT_take (i := 9) (v := ?_) rfl (by kernel_rfl) (by kernel_rfl) (by kernel_rfl) (fun _ _ _ h => h) (by decide) (Or.inl ⟨by rfl, ?_⟩) ⟨True.intro, fun _ => HC.out⟩ ?_
        rotate_left
        · intro w _
          go_simp
          try with_reducible rfl
        try simp only [Act.put, List.setIfInBounds_toArray, List.set_cons_zero, List.set_cons_succ]
        refine wpAnyT_take (i := 10) (v := ?_) rfl (by kernel_rfl) (by kernel_rfl) (by kernel_rfl) (fun _ _ _ h => h) (by decide) (Or.inl ⟨by rfl, ?_⟩) ⟨True.intro, fun _ => HC.out⟩ ?_
        rotate_left
        · intro w _
          go_simp
          try with_reducible rfl
        try simp only [Act.put, List.setIfInBounds_toArray, List.set_cons_zero, List.set_cons_succ]
        refine wpAnyT_load (i := 11) (v := ?_) rfl (by kernel_rfl) (by kernel_rfl) (by kernel_rfl) (fun _ _ _ h => h) (by decide) rfl (by kernel_rfl) (by kernel_rfl) (Or.inl ⟨by rfl, ?_⟩) ⟨True.intro, fun _ => HC.out⟩ ?_
        rotate_left
        · intro w hSw
          obtain ⟨_, hs1, hs2, hs3⟩ := hSw
          go_simp
          try with_reducible rfl
        try simp only [Act.put, List.setIfInBounds_toArray, List.set_cons_zero, List.set_cons_succ]
        refine wpAnyT_take (i := 13) (v := ?_) rfl (by kernel_rfl) (by kernel_rfl) (by kernel_rfl) (fun _ _ _ h => h) (by decide) (Or.inl ⟨by rfl, ?_⟩) ⟨True.intro, fun _ => HC.out⟩ ?_
        rotate_left
        · intro w _
          go_simp
          try with_reducible rfl
        try simp only [Act.put, List.setIfInBounds_toArray, List.set_cons_zero, List.set_cons_succ]
        refine wpAnyT_take (i := 14) (v := ?_) rfl (by kernel_rfl) (by kernel_rfl) (by kernel_rfl) (fun _ _ _ h => h) (by decide) (Or.inl ⟨by rfl, ?_⟩) ⟨True.intro, fun _ => HC.out⟩ ?_
        rotate_left
        · intro w _
          go_simp
          try with_reducible rfl
        try simp only [Act.put, List.setIfInBounds_toArray, List.set_cons_zero, List.set_cons_succ]
        refine wpAnyT_take (i := 15) (v := ?_) rfl (by kernel_rfl) (by kernel_rfl) (by kernel_rfl) (fun _ _ _ h => h) (by decide) (Or.inl ⟨by rfl, ?_⟩) ⟨True.intro, fun _ => HC.out⟩ ?_
        rotate_left
        · intro w _
          go_simp
          try with_reducible rfl
        try simp only [Act.put, List.setIfInBounds_toArray, List.set_cons_zero, List.set_cons_succ]
        refine wpAnyT_load (i := 16) (v := ?_) rfl (by kernel_rfl) (by kernel_rfl) (by kernel_rfl) (fun _ _ _ h => h) (by decide) rfl (by kernel_rfl) (by kernel_rfl) (Or.inl ⟨by rfl, ?_⟩) ⟨True.intro, fun _ => HC.out⟩ ?_
        rotate_left
        · intro w hSw
          obtain ⟨_, hs1, hs2, hs3⟩ := hSw
          go_simp
          try with_reducible rfl
        try simp only [Act.put, List.setIfInBounds_toArray, List.set_cons_zero, List.set_cons_succ]
        refine wpAnyT_take (i := 17) (v := ?_) rfl (by kernel_rfl) (by kernel_rfl) (by kernel_rfl) (fun _ _ _ h => h) (by decide) (Or.inl ⟨by rfl, ?_⟩) ⟨True.intro, fun _ => HC.out⟩ ?_
        rotate_left
        · intro w _
          go_simp
          try with_reducible rfl
        try simp only [Act.put, List.setIfInBounds_toArray, List.set_cons_zero, List.set_cons_succ]
        refine wpAnyT_take (i := 18) (v := ?_) rfl (by kernel_rfl) (by kernel_rfl) (by kernel_rfl) (fun _ _ _ h => h) (by decide) (Or.inl ⟨by rfl, ?_⟩) ⟨True.intro, fun _ => HC.out⟩ ?_
        rotate_left
        · intro w _
          go_simp
          try with_reducible rfl
        try simp only [Act.put, List.setIfInBounds_toArray, List.set_cons_zero, List.set_cons_succ]
        refine wpAnyT_load (i := 19) (v := ?_) rfl (by kernel_rfl) (by kernel_rfl) (by kernel_rfl) (fun _ _ _ h => h) (by decide) rfl (by kernel_rfl) (by kernel_rfl) (Or.inl ⟨by rfl, ?_⟩) ⟨True.intro, fun _ => HC.out⟩ ?_
        rotate_left
        · intro w hSw
          obtain ⟨_, hs1, hs2, hs3⟩ := hSw
          go_simp
          try with_reducible rfl
        try simp only [Act.put, List.setIfInBounds_toArray, List.set_cons_zero, List.set_cons_succ]
        refine wpAnyT_one (i := 12) (by kernel_rfl) rfl (fun K hK => ?_)
        refine step_clone rfl (.tmp 129) rfl g' n cap' f (by simp [Act.eval]) HRc.out.pg.drew (by omega) (by omega) ?_
        intro b3 c3 w3 hP3 hb3 hB3
        have HL3 := Lib.hid (And.intro hP3 (And.intro hb3 (bthen ((Below.refl _ _).drew) hB3)))
        have HC3 : Hid (w3.cell? ⟨pg, 1, none⟩ = some (.pointer (some ⟨rg, 0, none⟩)) ∧ w3.cell? ⟨rg, 0, none⟩ = some (.slice (some ⟨g', 0, none⟩) n cap') ∧ w3.cell? ⟨pg, 3, none⟩ = some (.slice AW NL cW)) := Lib.hid ⟨(HL1.out.p6.below HL3.out.2.2).c1, (HRc.out.below HL3.out.2.2).c0, (HL1.out.p6.below HL3.out.2.2).c3⟩
        have HR3 := Lib.hid (HRc.out.below HL3.out.2.2)
        clear hP3 hb3 hB3
        refine hK.out _ _ ⟨True.intro, fun _ => HC3.out⟩ ?_
        clear hK K
        try simp only [Act.put, List.setIfInBounds_toArray, List.set_cons_zero, List.set_cons_succ]
        refine wpAnyT_one (i := 20) (by kernel_rfl) rfl (fun K hK => ?_)
        refine step_clone rfl (.tmp 137) rfl g' n cap' f (by simp [Act.eval]) HR3.out.pg (by omega) (by omega) ?_
        intro b4 c4 w4 hP4 hb4 hB4
        have HL4 := Lib.hid (show PgAt w4 b3 n c3 f ∧ PgAt w4 b4 n c4 f ∧ (wC.heap.size ≤ b3 ∧ b3 < b4) ∧ Below wC.heap.size wC w4 from by
          have h1 := HL3.out.1.lt
          have h2 : b3 = wC.heap.size := HL3.out.2.1
          exact ⟨HL3.out.1.below hB4, hP4, ⟨by omega, by omega⟩, bthen HL3.out.2.2 hB4⟩)
        have HC4 : Hid (w4.cell? ⟨pg, 1, none⟩ = some (.pointer (some ⟨rg, 0, none⟩)) ∧ w4.cell? ⟨rg, 0, none⟩ = some (.slice (some ⟨g', 0, none⟩) n cap') ∧ w4.cell? ⟨pg, 3, none⟩ = some (.slice AW NL cW)) := Lib.hid ⟨(HL1.out.p6.below HL4.out.2.2.2).c1, (HRc.out.below HL4.out.2.2.2).c0, (HL1.out.p6.below HL4.out.2.2.2).c3⟩
        have HA4 := Lib.hid ((HAw.out.below HL4.out.2.2.2).alloc (Obj.cells #[.slice (some ⟨b3, 0, none⟩) n c3, .slice (some ⟨b4, 0, none⟩) n c4] 43))
        clear hP4 hb4 hB4
        refine hK.out _ _ ⟨True.intro, fun _ => HC4.out⟩ ?_
        clear hK K
        try simp only [Act.put, List.setIfInBounds_toArray, List.set_cons_zero, List.set_cons_succ]
        refine wpAnyT_one (i := 21) (by kernel_rfl) rfl (fun K hK => ?_)
        go_simp
        refine hK.out _ _ ⟨True.intro, fun _ => ⟨cell_alloc' HC4.out.1, cell_alloc' HC4.out.2.1, cell_alloc' HC4.out.2.2⟩⟩ ?_
        clear hK K
        try simp only [Act.put, List.setIfInBounds_toArray, List.set_cons_zero, List.set_cons_succ]
        refine wpAnyT_one (i := 22) (by kernel_rfl) rfl (fun K hK => ?_)
        refine step_grow rfl (.tmp 122) (.tmp 139) 57 rfl 43 _ 24 Try.underlying57 info43 rfl (by omega) (.slice AW NL cW) _ (by simp [Act.eval]) HA4.out ⟨w4.heap.size, 0, none⟩ 2 2 [.slice (some ⟨b3, 0, none⟩) n c3, .slice (some ⟨b4, 0, none⟩) n c4] rfl (by omega) (by simp [Act.eval]) (World.news_of_block (World.alloc_heap_new _ _)) (by simp [Value.oneCell']) HM4.out (NL + 2) HM5.out ?_
        intro g5 c5 w5 hA hF hO
        have hk := right_done HL1.out.p6 HAw.out HL4.out.2.2.2 HL4.out.1 HL4.out.2.1 HL4.out.2.2.1 hA hF hO
        have HRw : Hid (w5.cell? ⟨rg, 0, none⟩ = some (.slice (some ⟨g', 0, none⟩) n cap')) := Lib.hid (by
          have h4 := (HRc.out.below HL4.out.2.2.2)
          have hb4 := (h4.alloc (Obj.cells #[.slice (some ⟨b3, 0, none⟩) n c3, .slice (some ⟨b4, 0, none⟩) n c4] 43)).blk
          exact heap_cell (hF.keeps hb4 (HAw.out.ne HRc.out.blk (by decide))) 0)
        have HC5 : Hid (w5.cell? ⟨pg, 1, none⟩ = some (.pointer (some ⟨rg, 0, none⟩)) ∧ w5.cell? ⟨rg, 0, none⟩ = some (.slice (some ⟨g', 0, none⟩) n cap') ∧ w5.cell? ⟨pg, 3, none⟩ = some (.slice AW NL cW)) := Lib.hid ⟨hk.1.c1, HRw.out, hk.1.c3⟩
        have k3 := hk.1.c3
        have kf := hk.1.free 3
        have HL5 := Lib.hid hk.2
        clear hk hA hF hO
        refine hK.out _ _ ⟨True.intro, fun _ => HC5.out⟩ ?_
        clear hK K
        try simp only [Act.put, List.setIfInBounds_toArray, List.set_cons_zero, List.set_cons_succ]
        refine wpAnyT_take (i := 23) (v := ?_) rfl (by kernel_rfl) (by kernel_rfl) (by kernel_rfl) (fun _ _ _ h => h) (by decide) (Or.inl ⟨by rfl, ?_⟩) ⟨True.intro, fun _ => HC5.out⟩ ?_
        rotate_left
        · intro w _
          go_simp
          try with_reducible rfl
        try simp only [Act.put, List.setIfInBounds_toArray, List.set_cons_zero, List.set_cons_succ]
        refine wpAnyT_take (i := 24) (v := ?_) rfl (by kernel_rfl) (by kernel_rfl) (by kernel_rfl) (fun _ _ _ h => h) (by decide) (Or.inl ⟨by rfl, ?_⟩) ⟨True.intro, fun _ => HC5.out⟩ ?_
        rotate_left
        · intro w _
          go_simp
          try with_reducible rfl
        try simp only [Act.put, List.setIfInBounds_toArray, List.set_cons_zero, List.set_cons_succ]
        refine wpAnyT_one (i := 25) (by kernel_rfl) rfl (fun K hK => ?_)
        go_simp
        refine hK.out _ _ ⟨True.intro, fun h => by simp at h⟩ ?_
        clear hK K
        refine wpAnyT_done (by kernel_rfl) ?_ _
        go_wp2_with fail
        go_meet
        exact ⟨_, _, _, _, _, _, HL5⟩
      case rest =>
        obtain ⟨b3, c3, b4, c4, g2, d2, HL5⟩ := hcut
        have hlm := look_mark HP.out HB2.out HPl2.out HBl.out HL1.out HL5.out
        have HMk := Lib.hid (mark_any HL5.out.p6 hlm.1 hlm.2.1 hlm.2.2 (by rw [HNS.out]; omega) n4)
        clear hlm z1 z3 zr
        go_wp2_with fail
        refine HMk.out.mono ?_
        rintro e w6 ⟨rfl, LN, sv', mv', hM, h18, hbm⟩
        have HE := Lib.hid (look_end HP.out HB2.out HPl2.out HBl.out HNL.out (by rw [HNS.out]; exact s1) n4 HL1.out HL5.out hM h18 hbm)
        clear hM h18 hbm
        go_wp2_with fail
        go_ret
        exact ⟨rfl, HE.out⟩
  · have q : ((600 : Int) ≤ NS) ∨ ((NS : Int) < 600 ∧ (64 : Int) < n) := by omega
    clear hs
    rcases q with q | ⟨q, q1⟩
    all_goals
      go_wp2_with fail
      go_ret
      exact ⟨rfl, PStep.below HPA.out HB2.out⟩
end Go.Proofs.Ytcdeimmjhfimjaa
