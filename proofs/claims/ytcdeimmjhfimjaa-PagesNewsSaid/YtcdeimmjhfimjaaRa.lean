/- The reference's table: New, State, Free, Copy, TakeClass, TakeRun, Give answer as the program's. No condition. -/
import Derived.Test.YtcdeimmjhfimjaaBu
namespace Go.Proofs.Ytcdeimmjhfimjaa
open Go.RowKit Go.Proofs.Ytcdeimmjhfimjaa.Pp
set_option linter.unusedVariables false

def RNewP (w : World) (n : Nat) (e : Ending) (w' : World) : Prop :=
  ∃ rg g, e = .returned (.tuple #[.pointer (some ⟨rg, 0, none⟩), .int .i64 0]) ∧ RTab w' rg g n n (fun _ => fr0) ∧ w.heap.size ≤ rg ∧ w.heap.size ≤ g ∧ Below w.heap.size w w'
theorem rnew_any (n : Nat) (h1 : 1 ≤ n) (h4 : n ≤ 4096) (w : World) : Calls Try.prog 26 #[.int .i64 (n : Int)] w (RNewP w n) := by
  obtain ⟨i0, hi, hz0, hz1, hz2⟩ := info_parts info47
  go_enter Try.func26, Try.ntmps26
  go_wp2_with (refine wpList_make_full _ rfl (.tmp 10) (.tmp 10) 43 rfl w.heap.size 47 i0 _ 3 Try.underlying43 hi hz0 hz1 .i64 .i64 _ _ n rfl rfl rfl rfl (by rw [hz2]; omega) (by unfold maxLen; omega) (Nat.le_refl _) ?_; intro w1 hown hgr)
  go_ret2
  rw [made_flat] at hown
  have hP := PgAt.of_own hown
  have hB : Below w.heap.size w w1 := (Below.refl _ _).grown hgr (Nat.le_refl _) (by simp)
  exact ⟨w1.heap.size, w.heap.size, rfl, ⟨heap_alloc_new w1 _, hP.alloc _, wf_new n, h1, h4⟩, hB.size, Nat.le_refl _, hB.alloc hB.size _⟩
theorem rnew_bad (n : Int) (hn : n < 1 ∨ 4096 < n) (w : World) : Calls Try.prog 26 #[.int .i64 n] w fun e w' => e = .returned (.tuple #[.pointer none, .int .i64 1]) ∧ w = w' := by
  by_cases h : n < 1
  · go_enter Try.func26, Try.ntmps26
    go_wp2
    go_ret2
    exact ⟨rfl, rfl⟩
  · have h2 : 4096 < n := by omega
    go_enter Try.func26, Try.ntmps26
    go_wp2
    go_ret2
    exact ⟨rfl, rfl⟩

theorem rstate_in {w : World} {rg g n cap : Nat} {f : Nat → Pg} (h : RTab w rg g n cap f) (i : Nat) (hi : i < n) :
    Calls Try.prog 27 #[.pointer (some ⟨rg, 0, none⟩), .int .i64 (i : Int)] w fun e w' => e = .returned (.tuple #[.agg #[.int .i64 (f i).k, .int .i64 (f i).c, .int .i64 (f i).r], .bool true]) ∧ Below w.heap.size w w' := by
  have c0 := h.c0
  have pk := h.pg.k hi
  have pc := h.pg.c hi
  have pr := h.pg.r hi
  have h0 : (0 : Int) ≤ i := by omega
  have h1 : (i : Int) < n := by omega
  have h4 := h.n4
  have lt1 := h.lt
  have lt2 := h.pg.lt
  go_enter Try.func27, Try.ntmps27
  go_wp2
  exact bodyPost_ret (v := .tuple #[.agg #[.int .i64 (f i).k, .int .i64 (f i).c, .int .i64 (f i).r], .bool true]) (by simp [results, Try.results27, go_sem]) rfl ⟨rfl, (Below.refl _ _).alloc (Nat.le_refl _) _⟩
theorem rstate_out {w : World} {rg g n cap : Nat} {f : Nat → Pg} (h : RTab w rg g n cap f) (i : Int) (hi : i < 0 ∨ n ≤ i) :
    Calls Try.prog 27 #[.pointer (some ⟨rg, 0, none⟩), .int .i64 i] w fun e w' => e = .returned (.tuple #[.agg #[.int .i64 0, .int .i64 0, .int .i64 0], .bool false]) ∧ Below w.heap.size w w' := by
  have c0 := h.c0
  have lt1 := h.lt
  by_cases h0 : i < 0
  · go_enter Try.func27, Try.ntmps27
    go_wp2
    exact bodyPost_ret (v := .tuple #[.agg #[.int .i64 0, .int .i64 0, .int .i64 0], .bool false]) (by simp [results, Try.results27, go_sem]) rfl ⟨rfl, (Below.refl _ _).alloc (Nat.le_refl _) _⟩
  · have h1 : (n : Int) ≤ i := by omega
    go_enter Try.func27, Try.ntmps27
    go_wp2
    exact bodyPost_ret (v := .tuple #[.agg #[.int .i64 0, .int .i64 0, .int .i64 0], .bool false]) (by simp [results, Try.results27, go_sem]) rfl ⟨rfl, (Below.refl _ _).alloc (Nat.le_refl _) _⟩

theorem cnt_succ (f : Nat → Pg) (n : Nat) : cnt f (n + 1) = cnt f n + if isz (f n) = true then 1 else 0 := rfl
theorem rcount_any {w : World} {rg g n cap : Nat} {f : Nat → Pg} (h : RTab w rg g n cap f) :
    Calls Try.prog 28 #[.pointer (some ⟨rg, 0, none⟩)] w fun e w' => e = .returned (.int .i64 (cnt f n : Nat)) ∧ w = w' := by
  have c0 := h.c0
  have h4 := h.n4
  have H0 := Lib.hid h
  clear h
  go_enter Try.func28, Try.ntmps28
  go_wp2
  go_loop [3, 4] (fun m i => ∃ k : Nat, k ≤ n ∧ i = .int .i64 (k : Int) ∧ m = .int .i64 (cnt f k : Nat)) (fun _ i => n - (intOf i).toNat)
  case atStart => exact ⟨0, by omega, rfl, rfl⟩
  case round =>
    obtain ⟨k, hk, rfl, rfl⟩ := hrel
    by_cases hlt : k < n
    · have pk := H0.out.pg.k hlt
      have hcn : cnt f k ≤ 4096 := by have := cnt_le f k; omega
      have i0 : (0 : Int) ≤ k := by omega
      have i1 : (k : Int) < n := by omega
      have hs := cnt_succ f k
      have hz := H0.out.wf.isz hlt
      by_cases hk0 : (f k).k = 0
      · have q : ((f k).k == 0) = true := by simp [hk0]
        rw [if_pos (hz.2 hk0)] at hs
        have HS := Lib.hid hs
        clear hs hz hk0
        go_wp2
        go_round
        case rel => exact ⟨k + 1, by omega, by go_num, by rw [HS.out]; go_num⟩
        case measure => simp [intOf]; omega
      · have q : ((f k).k == 0) = false := by simp [hk0]
        rw [if_neg (fun e => hk0 (hz.1 e))] at hs
        have HS := Lib.hid hs
        clear hs hz hk0
        go_wp2
        go_round
        case rel => exact ⟨k + 1, by omega, by go_num, by rw [HS.out]; rfl⟩
        case measure => simp [intOf]; omega
    · have e : k = n := by omega
      subst e
      go_wp2
      go_ret
      exact ⟨rfl, rfl⟩

def RCopyP (w : World) (n : Nat) (f : Nat → Pg) (e : Ending) (w' : World) : Prop :=
  ∃ rg g cap, e = .returned (.pointer (some ⟨rg, 0, none⟩)) ∧ RTab w' rg g n cap f ∧ w.heap.size ≤ rg ∧ w.heap.size ≤ g ∧ Below w.heap.size w w'
theorem rcopy_any {w : World} {rg g n cap : Nat} {f : Nat → Pg} (h : RTab w rg g n cap f) : Calls Try.prog 37 #[.pointer (some ⟨rg, 0, none⟩)] w (RCopyP w n f) := by
  obtain ⟨i0, hi, hz0, hz1, hz2⟩ := info_parts info47
  have c0 := h.c0
  have h1 := h.n1
  have h4 := h.n4
  have hnews := h.pg.news
  have H0 := Lib.hid h
  clear h
  go_enter Try.func37, Try.ntmps37
  go_wp2_with (at_builtin; refine wpList_append_lies _ rfl (.const (.slice none 0 0)) (.tmp 6) 43 rfl w.heap.size 47 i0 _ 3 24 Try.underlying43 hi hz0 hz1 hz2 rfl (by omega) (.slice none 0 0) 0 [] rfl ⟨rfl, .inl ⟨rfl, rfl⟩⟩ ⟨g, 0, none⟩ n cap (flat f n) rfl (flat_length f n) hnews (flat_one f n) (by omega) (by unfold maxLen; omega) (by omega) (Nat.le_refl _) w.heap.size rfl ?_; intro g' cap' w1 hown hgr hat hlt)
  go_ret
  have hg' : g' = w.heap.size := by
    rcases hat with e | e
    · cases e
    · exact e
  simp only [Nat.zero_add, List.nil_append] at hown
  have hB : Below w.heap.size w w1 := (Below.refl _ _).grown hgr (Nat.le_refl _) (by simp [Value.ownBlock])
  exact ⟨w1.heap.size, g', cap', rfl, ⟨by simpa using heap_alloc_new w1 _, (PgAt.of_own hown).alloc _, H0.out.wf, h1, h4⟩, hB.size, by omega, hB.alloc hB.size _⟩
end Go.Proofs.Ytcdeimmjhfimjaa
