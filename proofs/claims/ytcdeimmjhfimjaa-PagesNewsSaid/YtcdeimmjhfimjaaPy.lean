/- plays, walked, for all kinds of looks at once. No condition. -/
import Derived.Test.YtcdeimmjhfimjaaPs
namespace Go.Proofs.Ytcdeimmjhfimjaa
open Go.RowKit Go.Proofs.Ytcdeimmjhfimjaa.Pp
set_option linter.unusedVariables false

/-- made, for every number. -/
def MadeQ (w : World) (e : Ending) (w' : World) : Prop := (e = .returned (.tuple #[.pointer none, .bool true]) ∧ w = w') ∨ MadeP w e w'
theorem made_tot (n : Int) (w : World) : Calls Try.prog 10 #[.int .i64 n] w (MadeQ w) := by
  by_cases h : n < 1 ∨ 4096 < n
  · exact (made_bad n h w).mono fun e w' he => .inl he
  · obtain ⟨m, rfl⟩ : ∃ m : Nat, n = (m : Int) := ⟨n.toNat, by omega⟩
    exact (made_any m (by omega) (by omega) w).mono fun e w' he => .inr he

theorem cell_al {w : World} {p : Addr} {v : Value} {o : Obj} (hc : w.cell? p = some v) : (w.alloc o).cell? p = some v := by
  have hl := World.block_lt_of_cell? w _ hc
  unfold World.cell? at hc ⊢
  rw [Below.heap_alloc w o p.block hl]
  exact hc
theorem cell_st {w : World} {p q : Addr} {v u : Value} (hne : p.block ≠ q.block) (hc : w.cell? p = some v) : (w.setCell q u).cell? p = some v := by
  unfold World.cell? at hc ⊢
  rw [heap_set_far hne]
  exact hc
theorem frozen_al {w : World} {p : Addr} {v : Value} {o : Obj} (hc : w.cell? p = some v) (hf : w.frozen? p = false) : (w.alloc o).frozen? p = false := by
  have hl := World.block_lt_of_cell? w _ hc
  unfold World.frozen? at hf ⊢
  rw [Below.heap_alloc w o p.block hl]
  exact hf

set_option maxRecDepth 100000 in
set_option maxHeartbeats 1600000 in
theorem plays_walk (lo hi : Int) (hlo : 10 ≤ lo) (hlh : lo ≤ hi) (hL : LookC lo hi) (n1 n2 : Int) (A : Option Addr) (len cap : Nat) (w : World) (hcap : len ≤ cap) (hmax : cap ≤ maxLen) (hr : IntRows w A len 3) :
    Calls Try.prog 25 #[.int .i64 n1, .int .i64 n2, .slice A len cap, .int .i64 lo, .int .i64 hi] w fun e w' => e = .returned (.bool true) ∧ Below w.heap.size w w' := by
  unfold maxLen at hmax
  have HR := Lib.hid hr
  have HLk := Lib.hid hL
  clear hr hL
  go_enter Try.func25, Try.ntmps25
  go_wp2_with fail
  refine (made_tot n1 _).mono ?_
  rintro e w1 (⟨rfl, rfl⟩ | ⟨p, rfl, hp, hB1, hp1⟩)
  · go_wp2_with fail
    refine (made_tot n2 _).mono ?_
    rintro e w2 (⟨rfl, rfl⟩ | ⟨q, rfl, hq, hB2, hq1⟩)
    · go_wp2_with fail
      refine (alive_any _).mono ?_
      rintro e w3 ⟨rfl, hB⟩
      have HB := Lib.hid hB
      clear hB
      go_wp2_with fail
      go_ret
      exact ⟨rfl, HB.out⟩
    · have HB2 := Lib.hid hB2
      clear hq hB2 hq1
      go_wp2_with fail
      refine (alive_any _).mono ?_
      rintro e w3 ⟨rfl, hB⟩
      have HB := Lib.hid (bthen HB2.out hB)
      clear hB
      go_wp2_with fail
      go_ret
      exact ⟨rfl, HB.out⟩
  · have HB1 := Lib.hid hB1
    have HP1 := Lib.hid (And.intro hp hp1)
    clear hp hB1 hp1
    go_wp2_with fail
    refine (made_tot n2 _).mono ?_
    rintro e w2 (⟨rfl, rfl⟩ | ⟨q, rfl, hq, hB2, hq1⟩)
    · go_wp2_with fail
      refine (alive_any _).mono ?_
      rintro e w3 ⟨rfl, hB⟩
      have HB := Lib.hid (bthen HB1.out hB)
      clear hB
      go_wp2_with fail
      go_ret
      exact ⟨rfl, HB.out⟩
    · have HB2 := Lib.hid hB2
      have HP2 := Lib.hid (And.intro hq hq1)
      clear hq hB2 hq1
      go_wp2_with fail
      refine (alive_any _).mono ?_
      rintro e w3 ⟨rfl, hB⟩
      have HS := Lib.hid (PSt.init HP1.out.1 HB1.out HP1.out.2 HP2.out.1 HB2.out HP2.out.2 hB)
      clear hB
      go_wp2_with fail
      obtain ⟨w4, hw4⟩ : ∃ x, x = w3.alloc (.cells #[.pointer (some ⟨p, 0, none⟩), .pointer (some ⟨q, 0, none⟩)] 22) := ⟨_, rfl⟩
      obtain ⟨lb, hlb⟩ : ∃ x, x = w3.heap.size := ⟨_, rfl⟩
      rw [← hw4, ← hlb] at HS
      rw [← hw4, ← hlb]
      clear hw4 hlb
      go_loopw [16] (fun i wr => ∃ (k l0 l1 : Nat), k ≤ len ∧ k ≤ 400 ∧ i = .int .i64 (k : Int) ∧ Hid (PSt w wr lb p q l0 l1 false)) (fun i _ => 400 - (intOf i).toNat)
      case atStart => exact ⟨0, p, q, by omega, by omega, rfl, HS⟩
      case round =>
        obtain ⟨k, l0, l1, hk, hk4, rfl, hS⟩ := hrel
        by_cases hlt : k < len ∧ k < 400
        · obtain ⟨hlt, h400⟩ := hlt
          have i400 : (k : Int) < 400 := by omega
          obtain ⟨b, off, x0, x1, x2, rfl, c0, c1, c2, _, _⟩ := (HR.out.below hS.out.bel).step hlt
          have HSa := Lib.hid (hS.out.below ((Below.refl _ _).alloc (Nat.le_refl _) (Obj.cells #[.int .i64 x0, .int .i64 x1, .int .i64 x2] 28)))
          have hpx := HSa.out.blk
          have y0 := heap_cell hpx 0
          have y1 := heap_cell hpx 1
          clear hpx
          rcases and1 x0 with hw | hw
          · by_cases kA : 1 ≤ x1 ∧ x1 ≤ 3
            · obtain ⟨a1, a2⟩ := kA
              have a3 : x1 < lo := by omega
              have q4 : (x1 == 4) = false := by simp; omega
              have HC := Lib.hid (HSa.out.call (x := l0) (by simp) fun ow h => turned_any h x0 x1 x2)
              go_wp2_with fail
              refine HC.out.mono ?_
              rintro e w6 ⟨rfl, hS6⟩
              have HS6 := Lib.hid hS6
              clear hS6 c0 c1 c2 y0 y1
              go_wp2_with fail
              go_roundw
              case rel => exact ⟨k + 1, l0, l1, by omega, by omega, by go_num, HS6⟩
              case measure => simp [intOf]; omega
            · by_cases k4 : x1 = 4
              · subst k4
                have a3 : 4 < lo := by omega
                clear kA
                obtain ⟨ow, _, _, hex⟩ := HSa.out.ex
                obtain ⟨tg, rg, g, cp, g', cp', n, f, lv, wv, sv, mv, LT, WT, LL, ρ, hG⟩ := (hex l0 (by simp)).1
                have HNe := Lib.hid (And.intro (Ne.symm ((hex l0 (by simp)).1.ne_lb HSa.out.blk)) (show wr.heap.size ≠ lb from by have := heap_lt hS.out.blk; omega))
                have z0 := hG.p6.c0
                have z1 := hG.p6.c1
                have HG := Lib.hid hG
                clear hex hG
                have HCp := Lib.hid (copy_any HG.out.tab)
                go_wp2_with fail
                refine HCp.out.mono ?_
                rintro e w6 ⟨tg1, g1, cap1, rfl, hT, ht, hg, hB⟩
                have HT := Lib.hid hT
                have HB6 := Lib.hid hB
                have HTg := Lib.hid (And.intro ht hg)
                have HG6 := Lib.hid (HG.out.below hB)
                have HLt := Lib.hid (And.intro (Nat.lt_of_lt_of_le (heap_lt HG.out.p6) hB.size) (And.intro (Nat.lt_of_lt_of_le (heap_lt HSa.out.blk) hB.size) (show wr.heap.size < w6.heap.size from Nat.lt_of_lt_of_le (by simp) hB.size)))
                have v1 := HG6.out.p6.c1
                have v2 := (hB.cell (p := ⟨wr.heap.size, 0, none⟩) (by simp)).trans (heap_cell (World.alloc_heap_new wr (Obj.cells #[.int .i64 x0, .int .i64 4, .int .i64 x2] 28)) 0)
                have v3 := (hB.block lb (heap_lt HSa.out.blk)).trans HSa.out.blk
                have v4 := heap_free v3 1
                have v6 := heap_cell v3 1
                have HRc := Lib.hid (rcopy_any HG6.out.rtab.drew)
                have hw1 : IntKind.i64.wrap (1 - bits .and .i64 x0 1) = 1 := by rw [hw]; rfl
                clear hw
                clear hT hB ht hg c0 c1 c2 y0 y1 z0 z1 v3
                go_wp2_with fail
                go_region_held3 (fun w' => w'.cell? ⟨l0, 1, none⟩ = some (.pointer (some ⟨rg, 0, none⟩)) ∧ w'.cell? ⟨wr.heap.size, 0, none⟩ = some (.int .i64 x0))
                  (first | exact ⟨v1, v2⟩ | exact ⟨by assumption, by assumption⟩ | exact ⟨cell_al (by assumption), cell_al (by assumption)⟩ | exact ⟨cell_st HNe.out.1 (cell_al (by assumption)), cell_st HNe.out.2 (cell_al (by assumption))⟩)
                  (first
                    | (go_at_call 37
                       refine HRc.out.mono ?_
                       rintro e w7 ⟨rg1, g2, cap2, rfl, hR, hr, hg2, hB7⟩
                       have d1 := (hB7.cell (p := ⟨l0, 1, none⟩) HLt.out.1).trans v1
                       have d2 := (hB7.cell (p := ⟨wr.heap.size, 0, none⟩) HLt.out.2.2).trans v2
                       have d6 := (hB7.cell (p := ⟨lb, 1, none⟩) HLt.out.2.1).trans v6
                       have d4 := (hB7.frozen (p := ⟨lb, 1, none⟩) HLt.out.2.1).trans v4
                       have d7 := cell_al (o := Obj.cells #[.pointer (some ⟨tg1, 0, none⟩), .pointer (some ⟨rg1, 0, none⟩), .slice none 0 0, .slice none 0 0, .slice none 0 0, .slice none 0 0] 60) d6
                       have d8 := frozen_al (o := Obj.cells #[.pointer (some ⟨tg1, 0, none⟩), .pointer (some ⟨rg1, 0, none⟩), .slice none 0 0, .slice none 0 0, .slice none 0 0, .slice none 0 0] 60) d6 d4
                       have HB7 := Lib.hid (bthen HB6.out.drew hB7)
                       have HR7 := Lib.hid hR
                       have HT7 := Lib.hid (HT.out.drew.below hB7)
                       have HRg := Lib.hid (And.intro (Nat.le_trans HB6.out.size hr) (Nat.le_trans HB6.out.size hg2))
                       have HGn := Lib.hid (show g1 ≠ g2 from by
                         obtain ⟨l, hTx⟩ := HT.out
                         have := hTx.pg.lt
                         have : w6.heap.size ≤ g2 := hg2
                         omega)
                       clear hR hr hg2 hB7))
                have HS6 := Lib.hid (HSa.out.copied HB7.out HT7.out HR7.out HTg.out.1 HTg.out.2 HRg.out.1 HRg.out.2 HGn.out 1 (by omega))
                clear v1 v2 v4 v6 d1 d2 d4 d6 d7 d8
                go_wp2_with fail
                go_roundw
                case rel => exact ⟨k + 1, _, _, by omega, by omega, by go_num, HS6⟩
                case measure => simp [intOf]; omega
              · have q4 : (x1 == 4) = false := by simp [k4]
                by_cases kB : lo ≤ x1 ∧ x1 ≤ hi
                · obtain ⟨a1, a2⟩ := kB
                  have a3 : 3 < x1 := by omega
                  have a4 : 1 ≤ x1 := by omega
                  have HC := Lib.hid (HSa.out.call (x := l0) (by simp) fun ow h => HLk.out _ ow _ x0 x1 x2 a1 a2 h)
                  clear kA k4
                  go_wp2_with fail
                  refine HC.out.mono ?_
                  rintro e w6 ⟨rfl, hS6⟩
                  have HS6 := Lib.hid hS6
                  clear hS6 c0 c1 c2 y0 y1
                  go_wp2_with fail
                  go_roundw
                  case rel => exact ⟨k + 1, l0, l1, by omega, by omega, by go_num, HS6⟩
                  case measure => simp [intOf]; omega
                · have q : (x1 < 1 ∧ x1 < lo) ∨ (1 ≤ x1 ∧ 3 < x1 ∧ x1 < lo) ∨ (1 ≤ x1 ∧ 3 < x1 ∧ lo ≤ x1 ∧ hi < x1) := by omega
                  clear kA k4 kB
                  rcases q with ⟨a1, a2⟩ | ⟨a1, a2, a3⟩ | ⟨a1, a2, a3, a4⟩
                  all_goals
                    go_wp2_with fail
                    go_roundw
                    case rel => exact ⟨k + 1, l0, l1, by omega, by omega, by go_num, HSa⟩
                    case measure => simp [intOf]; omega
          · by_cases kA : 1 ≤ x1 ∧ x1 ≤ 3
            · obtain ⟨a1, a2⟩ := kA
              have a3 : x1 < lo := by omega
              have q4 : (x1 == 4) = false := by simp; omega
              have HC := Lib.hid (HSa.out.call (x := l1) (by simp) fun ow h => turned_any h x0 x1 x2)
              go_wp2_with fail
              refine HC.out.mono ?_
              rintro e w6 ⟨rfl, hS6⟩
              have HS6 := Lib.hid hS6
              clear hS6 c0 c1 c2 y0 y1
              go_wp2_with fail
              go_roundw
              case rel => exact ⟨k + 1, l0, l1, by omega, by omega, by go_num, HS6⟩
              case measure => simp [intOf]; omega
            · by_cases k4 : x1 = 4
              · subst k4
                have a3 : 4 < lo := by omega
                clear kA
                obtain ⟨ow, _, _, hex⟩ := HSa.out.ex
                obtain ⟨tg, rg, g, cp, g', cp', n, f, lv, wv, sv, mv, LT, WT, LL, ρ, hG⟩ := (hex l1 (by simp)).1
                have HNe := Lib.hid (And.intro (Ne.symm ((hex l1 (by simp)).1.ne_lb HSa.out.blk)) (show wr.heap.size ≠ lb from by have := heap_lt hS.out.blk; omega))
                have z0 := hG.p6.c0
                have z1 := hG.p6.c1
                have HG := Lib.hid hG
                clear hex hG
                have HCp := Lib.hid (copy_any HG.out.tab)
                go_wp2_with fail
                refine HCp.out.mono ?_
                rintro e w6 ⟨tg1, g1, cap1, rfl, hT, ht, hg, hB⟩
                have HT := Lib.hid hT
                have HB6 := Lib.hid hB
                have HTg := Lib.hid (And.intro ht hg)
                have HG6 := Lib.hid (HG.out.below hB)
                have HLt := Lib.hid (And.intro (Nat.lt_of_lt_of_le (heap_lt HG.out.p6) hB.size) (And.intro (Nat.lt_of_lt_of_le (heap_lt HSa.out.blk) hB.size) (show wr.heap.size < w6.heap.size from Nat.lt_of_lt_of_le (by simp) hB.size)))
                have v1 := HG6.out.p6.c1
                have v2 := (hB.cell (p := ⟨wr.heap.size, 0, none⟩) (by simp)).trans (heap_cell (World.alloc_heap_new wr (Obj.cells #[.int .i64 x0, .int .i64 4, .int .i64 x2] 28)) 0)
                have v3 := (hB.block lb (heap_lt HSa.out.blk)).trans HSa.out.blk
                have v4 := heap_free v3 0
                have v6 := heap_cell v3 0
                have HRc := Lib.hid (rcopy_any HG6.out.rtab.drew)
                have hw1 : IntKind.i64.wrap (1 - bits .and .i64 x0 1) = 0 := by rw [hw]; rfl
                clear hw
                clear hT hB ht hg c0 c1 c2 y0 y1 z0 z1 v3
                go_wp2_with fail
                go_region_held3 (fun w' => w'.cell? ⟨l1, 1, none⟩ = some (.pointer (some ⟨rg, 0, none⟩)) ∧ w'.cell? ⟨wr.heap.size, 0, none⟩ = some (.int .i64 x0))
                  (first | exact ⟨v1, v2⟩ | exact ⟨by assumption, by assumption⟩ | exact ⟨cell_al (by assumption), cell_al (by assumption)⟩ | exact ⟨cell_st HNe.out.1 (cell_al (by assumption)), cell_st HNe.out.2 (cell_al (by assumption))⟩)
                  (first
                    | (go_at_call 37
                       refine HRc.out.mono ?_
                       rintro e w7 ⟨rg1, g2, cap2, rfl, hR, hr, hg2, hB7⟩
                       have d1 := (hB7.cell (p := ⟨l1, 1, none⟩) HLt.out.1).trans v1
                       have d2 := (hB7.cell (p := ⟨wr.heap.size, 0, none⟩) HLt.out.2.2).trans v2
                       have d6 := (hB7.cell (p := ⟨lb, 0, none⟩) HLt.out.2.1).trans v6
                       have d4 := (hB7.frozen (p := ⟨lb, 0, none⟩) HLt.out.2.1).trans v4
                       have d7 := cell_al (o := Obj.cells #[.pointer (some ⟨tg1, 0, none⟩), .pointer (some ⟨rg1, 0, none⟩), .slice none 0 0, .slice none 0 0, .slice none 0 0, .slice none 0 0] 60) d6
                       have d8 := frozen_al (o := Obj.cells #[.pointer (some ⟨tg1, 0, none⟩), .pointer (some ⟨rg1, 0, none⟩), .slice none 0 0, .slice none 0 0, .slice none 0 0, .slice none 0 0] 60) d6 d4
                       have HB7 := Lib.hid (bthen HB6.out.drew hB7)
                       have HR7 := Lib.hid hR
                       have HT7 := Lib.hid (HT.out.drew.below hB7)
                       have HRg := Lib.hid (And.intro (Nat.le_trans HB6.out.size hr) (Nat.le_trans HB6.out.size hg2))
                       have HGn := Lib.hid (show g1 ≠ g2 from by
                         obtain ⟨l, hTx⟩ := HT.out
                         have := hTx.pg.lt
                         have : w6.heap.size ≤ g2 := hg2
                         omega)
                       clear hR hr hg2 hB7))
                have HS6 := Lib.hid (HSa.out.copied HB7.out HT7.out HR7.out HTg.out.1 HTg.out.2 HRg.out.1 HRg.out.2 HGn.out 0 (by omega))
                clear v1 v2 v4 v6 d1 d2 d4 d6 d7 d8
                go_wp2_with fail
                go_roundw
                case rel => exact ⟨k + 1, _, _, by omega, by omega, by go_num, HS6⟩
                case measure => simp [intOf]; omega
              · have q4 : (x1 == 4) = false := by simp [k4]
                by_cases kB : lo ≤ x1 ∧ x1 ≤ hi
                · obtain ⟨a1, a2⟩ := kB
                  have a3 : 3 < x1 := by omega
                  have a4 : 1 ≤ x1 := by omega
                  have HC := Lib.hid (HSa.out.call (x := l1) (by simp) fun ow h => HLk.out _ ow _ x0 x1 x2 a1 a2 h)
                  clear kA k4
                  go_wp2_with fail
                  refine HC.out.mono ?_
                  rintro e w6 ⟨rfl, hS6⟩
                  have HS6 := Lib.hid hS6
                  clear hS6 c0 c1 c2 y0 y1
                  go_wp2_with fail
                  go_roundw
                  case rel => exact ⟨k + 1, l0, l1, by omega, by omega, by go_num, HS6⟩
                  case measure => simp [intOf]; omega
                · have q : (x1 < 1 ∧ x1 < lo) ∨ (1 ≤ x1 ∧ 3 < x1 ∧ x1 < lo) ∨ (1 ≤ x1 ∧ 3 < x1 ∧ lo ≤ x1 ∧ hi < x1) := by omega
                  clear kA k4 kB
                  rcases q with ⟨a1, a2⟩ | ⟨a1, a2, a3⟩ | ⟨a1, a2, a3, a4⟩
                  all_goals
                    go_wp2_with fail
                    go_roundw
                    case rel => exact ⟨k + 1, l0, l1, by omega, by omega, by go_num, HSa⟩
                    case measure => simp [intOf]; omega
        · have HE := Lib.hid hS.out.ends
          have qq : ((len : Int) ≤ k) ∨ ((k : Int) < len ∧ (400 : Int) ≤ k) := by omega
          clear hlt hk4
          rcases qq with e1 | ⟨e1, e2⟩
          all_goals
            have HC := Lib.hid (HE.out.call (x := p) (by simp) fun ow h => apart_any h)
            go_wp2_with fail
            refine HC.out.mono ?_
            rintro e w6 ⟨rfl, hS6⟩
            have HS6 := Lib.hid hS6
            have HC2 := Lib.hid (hS6.call (x := q) (by simp) fun ow h => apart_any h)
            clear hS6
            go_wp2_with fail
            refine HC2.out.mono ?_
            rintro e w7 ⟨rfl, hS7⟩
            have HS7 := Lib.hid hS7
            have HC3 := Lib.hid (hS7.call (x := l0) (by simp) fun ow h => apart_any h)
            have y0 := heap_cell hS7.blk 0
            clear hS7
            go_wp2_with fail
            refine HC3.out.mono ?_
            rintro e w8 ⟨rfl, hS8⟩
            have HS8 := Lib.hid hS8
            have HC4 := Lib.hid (hS8.call (x := l1) (by simp) fun ow h => apart_any h)
            have y1 := heap_cell hS8.blk 1
            clear hS8 y0
            go_wp2_with fail
            refine HC4.out.mono ?_
            rintro e w9 ⟨rfl, hS9⟩
            have HB9 := Lib.hid hS9.bel
            clear hS9 y1
            go_wp2_with fail
            go_ret
            exact ⟨rfl, HB9.out⟩
end Go.Proofs.Ytcdeimmjhfimjaa
