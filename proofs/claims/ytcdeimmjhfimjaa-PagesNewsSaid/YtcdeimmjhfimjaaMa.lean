/- mark, walked. No condition, but that the list is not longer than a table and the noted lists are not too many. -/
import Derived.Test.YtcdeimmjhfimjaaMk
namespace Go.Proofs.Ytcdeimmjhfimjaa
open Go.RowKit Go.Proofs.Ytcdeimmjhfimjaa.Pp
set_option linter.unusedVariables false

def markTo (h : Nat → Pg) (m : Int) (k : Nat) : Nat → Pg := fun j => if j < k then ⟨-m, 0, 0⟩ else h j
theorem markTo_zero (h : Nat → Pg) (m : Int) : markTo h m 0 = h := by funext j; unfold markTo; rw [if_neg (by omega)]
theorem markTo_succ (h : Nat → Pg) (m : Int) (k : Nat) : upd (markTo h m k) k ⟨-m, 0, 0⟩ = markTo h m (k + 1) := by
  funext j
  unfold upd markTo
  by_cases e : j = k
  · rw [if_pos e, if_pos (by omega)]
  · rw [if_neg e]
    by_cases e2 : j < k
    · rw [if_pos e2, if_pos (by omega)]
    · rw [if_neg e2, if_neg (by omega)]

theorem lenStep (L j : Nat) (h : L = 1 + min j 16 + if j = 40 then 1 else 0) (hj : j < 40) : (j < 16 ∨ j = 39 → L + 1 = 1 + min (j + 1) 16 + if j + 1 = 40 then 1 else 0) ∧ (¬(j < 16 ∨ j = 39) → L = 1 + min (j + 1) 16 + if j + 1 = 40 then 1 else 0) := by
  rw [if_neg (by omega)] at h
  constructor
  · intro hq
    by_cases e : j = 39
    · rw [if_pos (by omega)]; omega
    · rw [if_neg (by omega)]; omega
  · intro hq
    have e : j ≠ 39 := fun e => hq (.inr e)
    have e2 : 16 ≤ j := by omega
    rw [if_neg (by omega)]; omega

/-- What mark leaves. -/
def Marked (w : World) (pg : Nat) (a b c d sv mv : Value) (LL : List LE) (bl : Nat) (e : Ending) (w' : World) : Prop :=
  e = .returned (.tuple #[]) ∧ ∃ LN sv' mv', MSt w w' pg a b c d sv mv LL bl LN sv' mv' ∧ LN.length = 18 ∧ ∀ e, e ∈ LN → 0 ≤ e.m ∧ e.m ≤ 60000

set_option maxRecDepth 100000 in
set_option maxHeartbeats 1600000 in
theorem mark_any {w : World} {pg : Nat} {a b c d sv mv : Value} {LL : List LE} {bl n cap : Nat} {h : Nat → Pg} (hP : P6 w pg a b c d sv mv) (hM : MP w sv mv LL) (hl : PgAt w bl n cap h)
    (hbl : ∀ e, e ∈ LL → e.b ≠ bl) (hlen : LL.length ≤ 50000) (hn : n ≤ 4096) :
    Calls Try.prog 30 #[.pointer (some ⟨pg, 0, none⟩), .slice (some ⟨bl, 0, none⟩) n cap] w (Marked w pg a b c d sv mv LL bl) := by
  obtain ⟨A5, c5, hmv⟩ := hM.ms.form
  rw [List.length_map] at hmv
  obtain ⟨M, hMl⟩ : ∃ M : Int, 1000 + (LL.length : Int) = M := ⟨_, rfl⟩
  have hM0 : 1000 ≤ M := by omega
  have hM1 : M ≤ 60000 := by omega
  have x5 := hP.c5
  rw [hmv] at x5
  have HMV := Lib.hid hmv
  have HML := Lib.hid hMl
  have H6 := Lib.hid hP
  have HM := Lib.hid hM
  have HL := Lib.hid hl
  have HBL := Lib.hid hbl
  have hcap := hl.le
  have hmax := hl.max
  unfold maxLen at hmax
  clear hmv hMl hP hM hl hbl
  go_enter Try.func30, Try.ntmps30
  go_wp2_with fail
  rw [HML.out]
  clear x5
  go_loopw [5] (fun i wr => ∃ k : Nat, k ≤ n ∧ i = .int .i64 (k : Int) ∧ Hid (PgAt wr bl n cap (markTo h M k)) ∧ Hid (Fr [bl] w wr)) (fun i _ => n - (intOf i).toNat)
  case atStart => exact ⟨0, by omega, rfl, by rw [markTo_zero]; exact HL.out, Fr.refl _ _⟩
  case round =>
    obtain ⟨k, hk, rfl, hPg, hfr⟩ := hrel
    by_cases hlt : k < n
    · have p0 := hPg.out.k hlt
      have p1 := hPg.out.c hlt
      have p2 := hPg.out.r hlt
      have f0 := hPg.out.frozen (k * 3)
      have f1 := hPg.out.frozen (k * 3 + 1)
      have f2 := hPg.out.frozen (k * 3 + 2)
      have i0 : (0 : Int) ≤ k := by omega
      have i1 : (k : Int) < n := by omega
      go_wp2_with fail
      go_roundw
      case rel => exact ⟨k + 1, by omega, by go_num, by rw [← markTo_succ]; exact hPg.out.set hlt (-M) 0 0, hfr.out.put3 (by simp)⟩
      case measure => simp [intOf]; omega
    · have e : k = n := by omega
      subst e
      have hfar : PgAt wr bl k cap (mkd M) := hPg.out.congr fun j hj => by unfold markTo mkd; rw [if_pos hj]
      have hst : MSt w wr pg a b c d sv mv LL bl [] sv mv := by
        have h1 := HL.out.not_arr HM.out.ls (by decide)
        have h2 := HL.out.not_arr HM.out.ms (by decide)
        refine ⟨H6.out.fr hfr.out (by simp; exact fun e => HL.out.ne_p6 H6.out e.symm), ?_, fun e he => (by cases he), hfr.out.more (fun x _ hx => by simp at hx ⊢; exact .inr (.inl hx)), fun x hx => .inl hx, fun x hx => .inl hx⟩
        rw [List.append_nil]
        exact HM.out.fr hfr.out (fun x hx e => by simp at e; subst e; exact h1 hx) (fun x hx e => by simp at e; subst e; exact h2 hx) (fun e he => by simp; exact HBL.out e he)
      have HF := Lib.hid hfar
      have HS := Lib.hid hst
      have y4 := hst.p6.c4
      have y5 := hst.p6.c5
      have g4 := hst.p6.free 4
      have g5 := hst.p6.free 5
      have HA1 := Lib.hid (hst.mp.ls.alloc (Obj.cells #[.slice (some ⟨bl, 0, none⟩) k cap] 43))
      clear hfar hst hPg hfr hlt hk
      go_wp2_with (first
        | (at_builtin
           refine wpList_grow rfl (.tmp 30) (.tmp 32) 57 rfl 43 _ 24 Try.underlying57 info43 rfl (by omega) sv _ rfl HA1.out ⟨wr.heap.size, 0, none⟩ 1 1 [.slice (some ⟨bl, 0, none⟩) k cap] rfl rfl (cell_one_new _ _ _) (by simp [Value.oneCell']) (by simp; omega) (LL.length + 1) (by simp) ?_
           intro A2 C2 w2 hA hF2 hO2
           have hp2 := HS.out.p6_after hF2
           have z4 := hp2.c4
           have z5 := hp2.c5
           have r4 := hp2.free 4
           have r5 := hp2.free 5
           have HM2 := Lib.hid (HS.out.ms_after (o2 := Obj.cells #[.int .i64 M] 3) (u := .slice A2 (LL.length + 1) C2) hF2)
           have HA := Lib.hid hA
           have HF2 := Lib.hid hF2
           have HO2 := Lib.hid hO2
           clear hp2 hA hF2 hO2 y4 y5 g4 g5)
        | (at_builtin
           refine wpList_grow rfl (.tmp 40) (.tmp 42) 58 rfl 3 _ 8 Try.underlying58 info3 rfl (by omega) mv _ rfl HM2.out ⟨w2.heap.size, 0, none⟩ 1 1 [.int .i64 M] rfl rfl news_after (by simp [Value.oneCell']) (by simp; omega) (LL.length + 1) (by simp) ?_
           intro A3 C3 w3 hA hF3 hO3
           have hp3 := HS.out.p6_last HF2.out hF3
           have z4 := hp3.c4
           have z5 := hp3.c5
           have r4 := hp3.free 4
           have r5 := hp3.free 5
           have HA3 := Lib.hid hA
           have HF3 := Lib.hid hF3
           have HO3 := Lib.hid hO3
           clear hp3 hA hF3 hO3))
      have hlast : MSt w (w3.setCell ⟨pg, 5, none⟩ (.slice A3 (LL.length + 1) C3)) pg a b c d sv mv LL bl ([] ++ [⟨bl, k, cap, M⟩]) (.slice A2 (LL.length + 1) C2) (.slice A3 (LL.length + 1) C3) :=
        HS.out.push (e := ⟨bl, k, cap, M⟩) HF.out (.inl rfl) HA.out HF2.out HO2.out HA3.out HF3.out HO3.out
      have hfar : PgAt (w3.setCell ⟨pg, 5, none⟩ (.slice A3 (LL.length + 1) C3)) bl k cap (mkd M) := HF.out.fr (HS.out.push_fr HF2.out HF3.out) (HS.out.push_far HF.out)
      have HLa := Lib.hid hlast
      have HFa := Lib.hid hfar
      clear hlast hfar z4 z5 r4 r5
      go_loopw [6, 7] (fun fv i wx => ∃ (j : Nat) (LN : List LE) (sx mx : Value) (bf cf : Nat), j ≤ 40 ∧ i = .int .i64 (j : Int) ∧ fv = .slice (some ⟨bf, 0, none⟩) (k + j) cf ∧ LN.length ≤ 18 ∧ Hid (MSt w wx pg a b c d sv mv LL bl LN sx mx) ∧ Hid (PgAt wx bf (k + j) cf (mkd M)) ∧
        Hid (bf = bl ∨ w.heap.size ≤ bf) ∧ Hid (Near LN M bf (k + j) cf) ∧ Hid (LN.length = 1 + min j 16 + if j = 40 then 1 else 0)) (fun _ i _ => 40 - (intOf i).toNat)
      case atStart => exact ⟨0, [⟨bl, k, cap, M⟩], _, _, bl, cap, by omega, rfl, rfl, by simp, HLa.out, HFa.out, .inl rfl, fun e he => by simp at he; subst he; exact ⟨rfl, fun _ => ⟨Nat.le_refl _, rfl⟩⟩, rfl⟩
      case round =>
        obtain ⟨j, LN, sx, mx, bf, cf, hj, rfl, rfl, hln, hSt, hFa, hbf, hNe, hLe⟩ := hrel
        clear HLa HFa HS HF HA1 HM2 HA HF2 HO2 HA3 HF3 HO3
        by_cases h40 : j < 40
        · have i40 : (j : Int) < 40 := by omega
          by_cases h16 : j < 16 ∨ j = 39
          · have q : (j < 16 ∧ (j : Int) < 16) ∨ ((16 : Int) ≤ j ∧ ((j : Int) == 39) = true) := by
              rcases h16 with h | h
              · exact .inl ⟨h, by omega⟩
              · exact .inr ⟨by omega, by simp; omega⟩
            have HQ := Lib.hid ((lenStep LN.length j hLe.out h40).1 h16)
            have hln2 : LN.length ≤ 17 := by
              have h1 := hLe.out
              rw [if_neg (by omega)] at h1
              omega
            clear h16 hln
            rcases q with ⟨q, q2⟩ | ⟨q, q2⟩
            all_goals
              go_wp2_with (first
          | (at_builtin
             refine wpList_far rfl (.tmp 51) (.tmp 55) rfl bf (k + j) cf M rfl (hFa.out.alloc _) ⟨wr.heap.size, 0, none⟩ 1 rfl (news_page _ _ _ _) (by omega) ?_
             intro b4 cap4 w4 hP4 hc4
             have hall := hSt.out.far HM.out HBL.out hFa.out hbf.out hNe.out hP4 hc4
             have v4 := hall.1.p6.c4
             have v5 := hall.1.p6.c5
             have s4 := hall.1.p6.free 4
             have s5 := hall.1.p6.free 5
             have HS4 := Lib.hid hall.1
             have HB4 := Lib.hid hall.2.1
             have HN4 := Lib.hid hall.2.2
             have HP4 := Lib.hid hP4
             have HB1 := Lib.hid (hall.1.mp.ls.alloc (Obj.cells #[.slice (some ⟨b4, 0, none⟩) (k + j + 1) cap4] 43))
             clear hP4 hc4 hall)
          | (at_builtin
             refine wpList_grow rfl (.tmp 67) (.tmp 69) 57 rfl 43 _ 24 Try.underlying57 info43 rfl (by omega) sx _ rfl HB1.out ⟨w4.heap.size, 0, none⟩ 1 1 [.slice (some ⟨b4, 0, none⟩) (k + j + 1) cap4] rfl rfl (cell_one_new _ _ _) (by simp [Value.oneCell']) (by simp; omega) (LL.length + LN.length + 1) (by simp) ?_
             intro A5 C5 w5 hA hF5 hO5
             have hp2 := HS4.out.p6_after hF5
             have z4 := hp2.c4
             have z5 := hp2.c5
             have r4 := hp2.free 4
             have r5 := hp2.free 5
             have HM5 := Lib.hid (HS4.out.ms_after (o2 := Obj.cells #[.int .i64 M] 3) (u := .slice A5 (LL.length + LN.length + 1) C5) hF5)
             have HA5 := Lib.hid hA
             have HF5 := Lib.hid hF5
             have HO5 := Lib.hid hO5
             clear hp2 hA hF5 hO5 v4 v5 s4 s5)
          | (at_builtin
             refine wpList_grow rfl (.tmp 77) (.tmp 79) 58 rfl 3 _ 8 Try.underlying58 info3 rfl (by omega) mx _ rfl HM5.out ⟨w5.heap.size, 0, none⟩ 1 1 [.int .i64 M] rfl rfl news_after (by simp [Value.oneCell']) (by simp; omega) (LL.length + LN.length + 1) (by simp) ?_
             intro A6 C6 w6 hA hF6 hO6
             have hp3 := HS4.out.p6_last HF5.out hF6
             have z4 := hp3.c4
             have z5 := hp3.c5
             have r4 := hp3.free 4
             have r5 := hp3.free 5
             have HA6 := Lib.hid hA
             have HF6 := Lib.hid hF6
             have HO6 := Lib.hid hO6
             clear hp3 hA hF6 hO6))
              have hpush : MSt w (w6.setCell ⟨pg, 5, none⟩ (.slice A6 (LL.length + LN.length + 1) C6)) pg a b c d sv mv LL bl (LN ++ [⟨b4, k + j + 1, cap4, M⟩]) (.slice A5 (LL.length + LN.length + 1) C5) (.slice A6 (LL.length + LN.length + 1) C6) :=
                HS4.out.push (e := ⟨b4, k + j + 1, cap4, M⟩) HP4.out HB4.out HA5.out HF5.out HO5.out HA6.out HF6.out HO6.out
              have hfar4 : PgAt (w6.setCell ⟨pg, 5, none⟩ (.slice A6 (LL.length + LN.length + 1) C6)) b4 (k + j + 1) cap4 (mkd M) := HP4.out.fr (HS4.out.push_fr HF5.out HF6.out) (HS4.out.push_far HP4.out)
              have HPU := Lib.hid hpush
              have HN5 : Hid (Near (LN ++ [⟨b4, k + j + 1, cap4, M⟩]) M b4 (k + j + 1) cap4) := Lib.hid fun e he => by
                rcases List.mem_append.1 he with he | he
                · exact HN4.out e he
                · simp at he; subst he; exact ⟨rfl, fun _ => ⟨Nat.le_refl _, rfl⟩⟩
              have HL5 : Hid ((LN ++ [(⟨b4, k + j + 1, cap4, M⟩ : LE)]).length = 1 + min (j + 1) 16 + if j + 1 = 40 then 1 else 0) := Lib.hid (by
                rw [List.length_append, List.length_singleton]; exact HQ.out)
              have HF4 := Lib.hid hfar4
              clear hpush hfar4
              go_roundw
              case rel => exact ⟨j + 1, LN ++ [⟨b4, k + j + 1, cap4, M⟩], _, _, b4, cap4, by omega, by go_num, rfl, by simp; omega, HPU, HF4, HB4, HN5, HL5⟩
              case measure => simp [intOf]; omega
          · have q : (16 : Int) ≤ j := by omega
            have q2 : ((j : Int) == 39) = false := by simp; omega
            have HQ := Lib.hid ((lenStep LN.length j hLe.out h40).2 h16)
            clear h16
            go_wp2_with (first
          | (at_builtin
             refine wpList_far rfl (.tmp 51) (.tmp 55) rfl bf (k + j) cf M rfl (hFa.out.alloc _) ⟨wr.heap.size, 0, none⟩ 1 rfl (news_page _ _ _ _) (by omega) ?_
             intro b4 cap4 w4 hP4 hc4
             have hall := hSt.out.far HM.out HBL.out hFa.out hbf.out hNe.out hP4 hc4
             have v4 := hall.1.p6.c4
             have v5 := hall.1.p6.c5
             have s4 := hall.1.p6.free 4
             have s5 := hall.1.p6.free 5
             have HS4 := Lib.hid hall.1
             have HB4 := Lib.hid hall.2.1
             have HN4 := Lib.hid hall.2.2
             have HP4 := Lib.hid hP4
             have HB1 := Lib.hid (hall.1.mp.ls.alloc (Obj.cells #[.slice (some ⟨b4, 0, none⟩) (k + j + 1) cap4] 43))
             clear hP4 hc4 hall))
            go_roundw
            case rel => exact ⟨j + 1, LN, _, _, b4, cap4, by omega, by go_num, rfl, hln, HS4, HP4, HB4, HN4, HQ⟩
            case measure => simp [intOf]; omega
        · have e : j = 40 := by omega
          have HJ := Lib.hid e
          have i40 : (40 : Int) ≤ j := by omega
          clear e h40
          go_wp2_with fail
          go_end0
          refine ⟨rfl, LN, sx, mx, hSt.out, ?_, fun e he => by
            have := (hNe.out e he).1
            omega⟩
          have h1 := hLe.out
          rw [HJ.out] at h1
          simpa using h1
end Go.Proofs.Ytcdeimmjhfimjaa
