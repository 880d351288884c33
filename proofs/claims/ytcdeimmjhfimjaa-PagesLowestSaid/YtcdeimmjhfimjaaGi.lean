/- PagesGiven, walked. No condition, but that what comes in are ints. -/
import Derived.Test.YtcdeimmjhfimjaaBu
import Derived.Test.YtcdeimmjhfimjaaGp
namespace Go.Proofs.Ytcdeimmjhfimjaa
open Go.RowKit Go.Proofs.Ytcdeimmjhfimjaa.Pp
set_option linter.unusedVariables false

/-- A page in a block of its own. -/
def Blk3 (w : World) (b : Nat) (p : Pg) : Prop := w.heap[b]? = some (.cells #[.int .i64 p.k, .int .i64 p.c, .int .i64 p.r] 47 (0, 0))
section
variable {w w' : World} {b : Nat} {p : Pg}
theorem Blk3.c0 (h : Blk3 w b p) : w.cell? ⟨b, 0, none⟩ = some (.int .i64 p.k) := heap_cell h 0
theorem Blk3.c1 (h : Blk3 w b p) : w.cell? ⟨b, 1, none⟩ = some (.int .i64 p.c) := heap_cell h 1
theorem Blk3.c2 (h : Blk3 w b p) : w.cell? ⟨b, 2, none⟩ = some (.int .i64 p.r) := heap_cell h 2
theorem Blk3.fr {L : List Nat} (h : Blk3 w b p) (e : Fr L w w') (hb : b ∉ L) : Blk3 w' b p := e.keeps h hb
theorem Blk3.below (h : Blk3 w b p) (e : Below w.heap.size w w') : Blk3 w' b p := (e.block b (heap_lt h)).trans h
end
theorem not_two {a b c : Nat} (h1 : c ≠ a) (h2 : c ≠ b) : c ∉ [a, b] := by simp [h1, h2]
theorem Tab.lt {w : World} {tg g n cap : Nat} {f : Nat → Pg} (h : Tab w tg g n cap f) : tg < w.heap.size ∧ g < w.heap.size := by
  obtain ⟨l, h⟩ := h
  exact ⟨h.lt, h.pg.lt⟩

set_option maxRecDepth 100000 in
set_option maxHeartbeats 1600000 in
theorem given_out (a : Int) (A : Option Addr) (len cap : Nat) (p : Int) (ha0 : -9223372036854775808 ≤ a) (ha1 : a ≤ 9223372036854775807) (w : World) (hcap : len ≤ cap) (hmax : cap ≤ maxLen) (hr : IntRows w A len 3)
    (N : Nat) (hN : 1 + withinV a 60 = (N : Int)) (hp : p < 0 ∨ (N : Int) ≤ p) :
    Calls Try.prog 6 #[.int .i64 a, .slice A len cap, .int .i64 p] w fun e w' => e = .returned (.bool true) ∧ Below w.heap.size w w' := by
  have hw := within_bd a (n := 60) (by omega)
  have hw0 := hw.1
  have hw1 := hw.2
  have hN1 : 1 ≤ N := by omega
  have hN4 : N ≤ 60 := by omega
  have HN := Lib.hid hN
  have HW := Lib.hid (within_any a 60 ha0 ha1 (by omega))
  have HBu := Lib.hid (busy_any N hN1 (by omega) A len cap w hcap hmax hr)
  clear hN hw hr
  have d : (p < 0 ∧ decide (0 ≤ p) = false) ∨ ((N : Int) ≤ p ∧ 0 ≤ p ∧ decide (0 ≤ p) = true ∧ decide (p < N) = false) := by
    by_cases h : p < 0
    · exact .inl ⟨h, by simp; omega⟩
    · exact .inr ⟨by omega, by omega, by simp; omega, by simp; omega⟩
  go_enter Try.func6, Try.ntmps6
  go_wp2_with fail
  refine (HW.out _).mono ?_
  rintro e w0 ⟨rfl, rfl⟩
  go_wp2_with fail
  rw [HN.out]
  clear hw0 hw1
  refine HBu.out.mono ?_
  rintro e w1 ⟨tg, g, f, rfl, hT, ht, hg, hB⟩
  have HT := Lib.hid hT
  have HB := Lib.hid hB
  clear hT hB
  go_wp2_with fail
  refine (alive_any _).mono ?_
  rintro e w2 ⟨rfl, hB⟩
  have HT2 := Lib.hid (HT.out.below hB)
  have HB2 := Lib.hid (bthen HB.out hB)
  clear hB
  go_wp2_with fail
  obtain ⟨l, hT⟩ := HT2.out
  refine (all_any hT).mono ?_
  rintro e w3 ⟨g1, cap1, rfl, hP, hg1, hB⟩
  have hT3 := hT.below hB
  have HP3 := Lib.hid hP
  have HB3 := Lib.hid (bthen HB2.out hB)
  have HS := Lib.hid (state_out hT3 p hp)
  have HT3 := Lib.hid hT3
  clear hT hP hB hT3 hg1
  go_wp2_with fail
  refine HS.out.mono ?_
  rintro e w4 ⟨rfl, hB⟩
  have HT4 := Lib.hid (HT3.out.below hB)
  have HP4 := Lib.hid (HP3.out.below hB)
  have HB4 := Lib.hid (bthen HB3.out hB)
  clear hB
  rcases d with ⟨d0, d1⟩ | ⟨d0, d1, d2, d3⟩
  all_goals
    go_wp2_with fail
    go_quiet (fail)
    go_wp2_with fail
    have HG := Lib.hid (give_out ((HT4.out.alloc (Obj.cells #[.int .i64 0, .int .i64 0, .int .i64 0] 47)).drewN nq) hp)
    have hPx := (HP4.out.alloc (Obj.cells #[.int .i64 0, .int .i64 0, .int .i64 0] 47)).drewN nq
    have HTx := Lib.hid ((HT4.out.alloc (Obj.cells #[.int .i64 0, .int .i64 0, .int .i64 0] 47)).drewN nq)
    have HPx := Lib.hid hPx
    clear hPx
    refine HG.out.mono ?_
    rintro e w5 ⟨rfl, rfl⟩
    go_wp2_with fail
    refine (all_any HTx.out).mono ?_
    rintro e w6 ⟨g2, cap2, rfl, hP2, hg2, hB⟩
    have HS2 := Lib.hid (same_any hP2 (HPx.out.below hB))
    have HB6 := Lib.hid ((below_drewN (HB4.out.alloc HB4.out.size (Obj.cells #[.int .i64 0, .int .i64 0, .int .i64 0] 47)) nq).trans (hB.mono (by have := HB4.out.size; simp; omega)))
    clear hP2 hB hg2
    go_wp2_with fail
    refine HS2.out.mono ?_
    rintro e w7 ⟨rfl, hB⟩
    have HB7 := Lib.hid (bthen HB6.out hB)
    clear hB
    go_wp2_with fail
    go_ret
    exact ⟨rfl, HB7.out⟩

set_option maxRecDepth 100000 in
set_option maxHeartbeats 1600000 in
theorem given_in (a : Int) (A : Option Addr) (len cap : Nat) (p : Nat) (ha0 : -9223372036854775808 ≤ a) (ha1 : a ≤ 9223372036854775807) (w : World) (hcap : len ≤ cap) (hmax : cap ≤ maxLen) (hr : IntRows w A len 3)
    (N : Nat) (hN : 1 + withinV a 60 = (N : Int)) (hp : p < N) :
    Calls Try.prog 6 #[.int .i64 a, .slice A len cap, .int .i64 (p : Int)] w fun e w' => e = .returned (.bool true) ∧ Below w.heap.size w w' := by
  have hw := within_bd a (n := 60) (by omega)
  have hw0 := hw.1
  have hw1 := hw.2
  have hN1 : 1 ≤ N := by omega
  have hN4 : N ≤ 60 := by omega
  have HN := Lib.hid hN
  have HW := Lib.hid (within_any a 60 ha0 ha1 (by omega))
  have HBu := Lib.hid (busy_any N hN1 (by omega) A len cap w hcap hmax hr)
  clear hN hw hr
  have i0 : (0 : Int) ≤ p := by omega
  have i1 : (p : Int) < N := by omega
  have d1 : decide ((0 : Int) ≤ p) = true := by simp
  have d2 : decide ((p : Int) < N) = true := by simp; omega
  go_enter Try.func6, Try.ntmps6
  go_wp2_with fail
  refine (HW.out _).mono ?_
  rintro e w0 ⟨rfl, rfl⟩
  go_wp2_with fail
  rw [HN.out]
  clear hw0 hw1
  refine HBu.out.mono ?_
  rintro e w1 ⟨tg, g, f, rfl, hT, ht, hg, hB⟩
  have HT := Lib.hid hT
  have HB := Lib.hid hB
  clear hT hB
  go_wp2_with fail
  refine (alive_any _).mono ?_
  rintro e w2 ⟨rfl, hB⟩
  have HT2 := Lib.hid (HT.out.below hB)
  have HB2 := Lib.hid (bthen HB.out hB)
  clear hB
  go_wp2_with fail
  obtain ⟨l, hT⟩ := HT2.out
  refine (all_any hT).mono ?_
  rintro e w3 ⟨g1, cap1, rfl, hP, hg1, hB⟩
  have hT3 := hT.below hB
  have hl3 := (Tab.lt ⟨l, hT⟩)
  have hn1 : tg ≠ g1 := by rw [hg1]; omega
  have hn2 : g ≠ g1 := by rw [hg1]; omega
  have HP3 := Lib.hid hP
  have HB3 := Lib.hid (bthen HB2.out hB)
  have HS := Lib.hid (state_in hT3 p hp)
  have HT3 := Lib.hid hT3
  clear hT hP hB hT3 hg1 hl3
  go_wp2_with fail
  refine HS.out.mono ?_
  rintro e w4 ⟨rfl, hB⟩
  have hT4 := HT3.out.below hB
  have hP4 := HP3.out.below hB
  have l1 := hT4.lt
  have l2 := hT4.pg.lt
  have l3 := hP4.lt
  have a0 := hP4.k hp
  have a1 := hP4.c hp
  have a2 := hP4.r hp
  have HT4 := Lib.hid hT4
  have HP4 := Lib.hid hP4
  have HB4 := Lib.hid (bthen HB3.out hB)
  clear hB hT4 hP4
  go_wp2_with fail
  go_quiet (fail)
  go_wp2_with fail
  clear a0 a1 a2
  have hx : Blk3 ((w4.alloc (Obj.cells #[.int .i64 (f p).k, .int .i64 (f p).c, .int .i64 (f p).r] 47)).drewN nq) w4.heap.size (f p) := heap_alloc_new w4 _
  have HX := Lib.hid hx
  have HT5 := Lib.hid ((HT4.out.alloc (Obj.cells #[.int .i64 (f p).k, .int .i64 (f p).c, .int .i64 (f p).r] 47)).drewN nq)
  have HP5 := Lib.hid ((HP4.out.alloc (Obj.cells #[.int .i64 (f p).k, .int .i64 (f p).c, .int .i64 (f p).r] 47)).drewN nq)
  have HB5 := Lib.hid (below_drewN (HB4.out.alloc HB4.out.size (Obj.cells #[.int .i64 (f p).k, .int .i64 (f p).c, .int .i64 (f p).r] 47)) nq)
  have hxt : w4.heap.size ∉ [tg, g] := not_two (by omega) (by omega)
  have hxg : g1 ∉ [tg, g] := not_two hn1.symm hn2.symm
  clear hx
  generalize hw5 : (w4.alloc (Obj.cells #[.int .i64 (f p).k, .int .i64 (f p).c, .int .i64 (f p).r] 47)).drewN nq = w5 at *
  clear hw5
  refine (give_any ⟨_, HT5.out⟩ (p : Int)).mono ?_
  rintro e w6 ⟨rfl, ⟨l6, hT6⟩, hF6⟩
  have HX6 := Lib.hid (HX.out.fr hF6 hxt)
  have HP6 := Lib.hid (HP5.out.fr hF6 hxg)
  have HB6 := Lib.hid (hF6.onto HB5.out (two_ge ht hg))
  have HT6 := Lib.hid hT6
  clear hT6 hF6
  go_wp2_with fail
  refine (all_any HT6.out).mono ?_
  rintro e w7 ⟨g2, cap2, rfl, hP2, hg2, hB⟩
  have HX7 := Lib.hid (HX6.out.below hB)
  have HP7 := Lib.hid (HP6.out.below hB)
  have HT7 := Lib.hid (HT6.out.below hB)
  have HB7 := Lib.hid (bthen HB6.out hB)
  have HP2 := Lib.hid hP2
  clear hP2 hg2 hB
  have x0 := HX7.out.c0
  have x1 := HX7.out.c1
  have x2 := HX7.out.c2
  by_cases hk : (f p).k = 0 ∨ (f p).k = 3
  · have hgn : ¬ Givable N f p := fun h => by
      have h1 := h.2.2.1
      have h2 := h.2.2.2
      rw [Int.toNat_natCast] at h1 h2
      omega
    have e1 := giveE_no hgn
    have e2 := giveF_no hgn
    have hP2 := HP2.out
    rw [e2] at hP2
    have HS2 := Lib.hid (same_any hP2 HP7.out)
    rw [e1]
    have q : ((f p).k == 0) = true ∨ (((f p).k == 0) = false ∧ ((f p).k == 3) = true) := by
      by_cases h0 : (f p).k = 0
      · exact .inl (by simp [h0])
      · exact .inr ⟨by simp [h0], by simp; omega⟩
    clear hgn e1 e2 hP2 hk
    rcases q with q | ⟨q, q2⟩
    all_goals
      go_wp2_with fail
      refine HS2.out.mono ?_
      rintro e w8 ⟨rfl, hB⟩
      have HB8 := Lib.hid (bthen HB7.out hB)
      clear hB
      go_wp2_with fail
      go_ret
      exact ⟨rfl, HB8.out⟩
  · have hgv : Givable N f p := ⟨by omega, by omega, by rw [Int.toNat_natCast]; omega, by rw [Int.toNat_natCast]; omega⟩
    rw [giveE_yes hgv]
    have q1 : ((f p).k == 0) = false := by simp; omega
    have q2 : ((f p).k == 3) = false := by simp; omega
    have hsp := (HT5.out.wf.span hgv)
    rw [Int.toNat_natCast] at hsp
    obtain ⟨m, hm⟩ : ∃ m, m = sizeAt f p := ⟨_, rfl⟩
    rw [← hm] at hsp
    have s1 := hsp.1
    have s2 := hsp.2.1
    have s3 := hsp.2.2.1
    have hin : ∀ j : Nat, p ≤ j → j < p + m → giveF N f p j = fr0 ∧ isz (f j) = false := fun j j0 j1 => by
      have hb := HT5.out.wf.span_busy hgv j
      have hi := giveF_in hgv (j := j)
      rw [Int.toNat_natCast, ← hm] at hb hi
      exact ⟨hi j0 j1, hb j0 j1⟩
    have hout : ∀ j : Nat, j < p ∨ p + m ≤ j → giveF N f p j = f j := fun j jo => giveF_out hgv (by rw [Int.toNat_natCast, ← hm]; exact jo)
    have hkind : ((f p).k = 2 ∧ (f p).r = (m : Int)) ∨ (((f p).k == 2) = false ∧ m = 1) := by
      by_cases h2 : (f p).k = 2
      · have := hsp.2.2.2.2
        refine .inl ⟨h2, ?_⟩
        have hr1 := ((HT5.out.wf p hp).two h2).1
        omega
      · refine .inr ⟨by simp [h2], ?_⟩
        rw [hm]; unfold sizeAt; rw [if_neg h2]
    have HI := Lib.hid hin
    have HO := Lib.hid hout
    have HK := Lib.hid hkind
    clear hsp hm hin hout hkind hgv hk
    go_upto_if 91 with (fail)
    go_cut [13] (fun v wc => v = .int .i64 (m : Int) ∧ Hid (wc = w7))
    case first =>
      rcases HK.out with ⟨hk2, hkr⟩ | ⟨hk2, hkr⟩
      · have q3 : ((f p).k == 2) = true := by simp [hk2]
        rw [hkr] at x2
        clear hk2 hkr
        go_wp2_with fail
        go_meet
        exact ⟨rfl, rfl⟩
      · subst hkr
        go_wp2_with fail
        go_meet
        exact ⟨rfl, rfl⟩
    case rest =>
      obtain ⟨rfl, hwc⟩ := hcut
      obtain rfl := hwc.out
      clear hwc x0 x1 x2 q1 q2
      go_wp2_with fail
      go_loopw [14, 15] (fun i _ wr => ∃ k : Nat, k ≤ N ∧ i = .int .i64 (k : Int) ∧ Hid (PgAt wr g1 N cap1 f) ∧ Hid (PgAt wr g2 N cap2 (giveF N f p)) ∧ Hid (Tab wr tg g N N (giveF N f p)) ∧ Hid (Below w.heap.size w wr)) (fun i _ _ => N - (intOf i).toNat)
      case atStart => exact ⟨0, by omega, rfl, HP7.out, HP2.out, ⟨_, HT7.out⟩, HB7.out⟩
      case round =>
        obtain ⟨k, hk, rfl, hA, hB, hTa, hbw⟩ := hrel
        by_cases hlt : k < N
        · have a0 := hA.out.k hlt
          have a1 := hA.out.c hlt
          have a2 := hA.out.r hlt
          have b0 := hB.out.k hlt
          have b1 := hB.out.c hlt
          have b2 := hB.out.r hlt
          have k0 : (0 : Int) ≤ k := by omega
          have k1 : (k : Int) < N := by omega
          by_cases hin : p ≤ k ∧ k < p + m
          · have d4 : decide ((p : Int) ≤ k) = true := by simp; omega
            have d5 : decide ((k : Int) < (p : Int) + m) = true := by simp; omega
            have l4 : (p : Int) ≤ k := by omega
            have l5 : (k : Int) < (p : Int) + m := by omega
            obtain ⟨e1, e2⟩ := HI.out k hin.1 hin.2
            rw [e1] at b0 b1 b2
            replace b0 : wr.cell? ⟨g2, k * 3, none⟩ = some (.int .i64 0) := b0
            replace b1 : wr.cell? ⟨g2, k * 3 + 1, none⟩ = some (.int .i64 0) := b1
            replace b2 : wr.cell? ⟨g2, k * 3 + 2, none⟩ = some (.int .i64 0) := b2
            have hz : ¬ (f k).k = 0 := fun h => by
              rw [(HT5.out.wf.isz hlt).2 h] at e2
              cases e2
            have hz2 : ¬ (0 : Int) = (f k).k := fun h => hz h.symm
            clear hin e1 e2
            go_wp2_with fail
            go_quiet (fail)
            go_wp2_with fail
            go_roundw
            case rel => exact ⟨k + 1, by omega, by go_num, hA.out.drewN _, hB.out.drewN _, hTa.out.below (below_drewN (Below.refl _ _) _), below_drewN hbw.out _⟩
            case measure => simp [intOf]; omega
          · have e1 := HO.out k (by omega)
            rw [e1] at b0 b1 b2
            have d6 : ((p : Int) + m ≤ k ∧ decide ((p : Int) ≤ k) = true ∧ decide ((k : Int) < (p : Int) + m) = false) ∨ ((k : Int) < p ∧ decide ((p : Int) ≤ k) = false) := by
              by_cases h : p ≤ k
              · exact .inl ⟨by omega, by simp; omega, by simp; omega⟩
              · exact .inr ⟨by omega, by simp; omega⟩
            clear hin e1
            rcases d6 with ⟨d3, d4, d5⟩ | ⟨d3, d4⟩
            all_goals
              go_wp2_with fail
              go_quiet (fail)
              go_wp2_with fail
              go_roundw
              case rel => exact ⟨k + 1, by omega, by go_num, hA.out.drewN _, hB.out.drewN _, hTa.out.below (below_drewN (Below.refl _ _) _), below_drewN hbw.out _⟩
              case measure => simp [intOf]; omega
        · have e : k = N := by omega
          subst e
          clear hk hlt hA hB
          go_wp2_with fail
          go_loopw [16] (fun i wx => ∃ (j : Nat) (fk : Nat → Pg), j ≤ k ∧ i = .int .i64 (j : Int) ∧ Hid (Tab wx tg g k k fk) ∧ Hid (∀ x, x < j → isz (fk x) = true) ∧ Hid (Below w.heap.size w wx)) (fun i _ => k - (intOf i).toNat)
          case atStart => exact ⟨0, _, by omega, rfl, hTa.out, fun x hx => by omega, hbw.out⟩
          case round =>
            obtain ⟨j, fk, hj, rfl, hTk, hZ, hbx⟩ := hrel
            by_cases hlt : j < k
            · have HGV := Lib.hid (give_any hTk.out (j : Int))
              obtain ⟨lk, hTL⟩ := hTk.out
              have HNX := Lib.hid (giveF_next hTL.wf hlt hZ.out)
              clear hTL
              go_wp2_with fail
              refine HGV.out.mono ?_
              rintro e w8 ⟨rfl, hT8, hF8⟩
              have HT8 := Lib.hid hT8
              have HB8 := Lib.hid (hF8.onto hbx.out (two_ge ht hg))
              clear hT8 hF8
              go_wp2_with fail
              go_roundw
              case rel => exact ⟨j + 1, _, by omega, by go_num, HT8.out, HNX.out, HB8.out⟩
              case measure => simp [intOf]; omega
            · have e : j = k := by omega
              subst e
              have hf := first_low (l := 0) (fun x hx => by omega) (show 0 < j by omega) (hZ.out 0 (by omega))
              have HTC := Lib.hid (takeClass_any (c := 0) hTk.out (by omega) (by omega))
              have hcu := cnt_upd (f := fk) (p := ⟨1, 0, 0⟩) (show 0 < j by omega) (hZ.out 0 (by omega)) (by simp [isz])
              have hca := cnt_all hZ.out
              have HFI := Lib.hid hf
              have HCN := Lib.hid (show ((cnt (upd fk 0 ⟨1, 0, 0⟩) j : Nat) : Int) = (j : Int) - 1 by omega)
              clear hf hcu hca
              go_wp2_with fail
              refine HTC.out.mono ?_
              rintro e w8 ⟨rfl, ⟨l8, hT8⟩, hF8⟩
              rw [takeV_some HFI.out, takeE_some HFI.out]
              rw [takeC_some HFI.out] at hT8
              have hc8 := count_any hT8
              rw [HCN.out] at hc8
              have HC8 := Lib.hid hc8
              have HB8 := Lib.hid (hF8.onto hbx.out (two_ge ht hg))
              clear hT8 hF8 hc8
              go_wp2_with fail
              refine HC8.out.mono ?_
              rintro e w9 ⟨rfl, rfl⟩
              go_wp2_with fail
              go_ret
              exact ⟨rfl, HB8.out⟩
end Go.Proofs.Ytcdeimmjhfimjaa
