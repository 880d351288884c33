/- The pages of a table in plain numbers: what is free, the lowest free row, what taking and giving make of them, and what holds of every table. No condition. -/
import Derived.WalkKit
namespace Go.Proofs.Ytcdeimmjhfimjaa.Pp

/-- A page: its kind, its class, its run. -/
structure Pg where
  k : Int
  c : Int
  r : Int
def fr0 : Pg := ⟨0, 0, 0⟩
def isz (p : Pg) : Bool := p.k == 0 && (p.c == 0 && p.r == 0)
theorem isz_iff {p : Pg} : isz p = true ↔ p.k = 0 ∧ p.c = 0 ∧ p.r = 0 := by simp [isz]
theorem isz_fr0 : isz fr0 = true := rfl
theorem isz_not {p : Pg} (h : p.k ≠ 0) : isz p = false := by simp [isz, h]
theorem isz_eq {p : Pg} (h : isz p = true) : p = fr0 := by
  obtain ⟨a, b, c⟩ := p
  obtain ⟨h1, h2, h3⟩ := isz_iff.1 h
  simp only at h1 h2 h3
  subst h1 h2 h3
  rfl
/-- How the compiled text asks it. -/
theorem isz_false {p : Pg} (h : isz p = false) : ¬ (p.k = 0 ∧ p.c = 0 ∧ p.r = 0) := fun g => by rw [isz_iff.2 g] at h; cases h

/-! ### The lowest free row -/
def RunAt (n : Nat) (f : Nat → Pg) (k s : Nat) : Prop := s + k ≤ n ∧ ∀ j, s ≤ j → j < s + k → isz (f j) = true
def runAtB (n : Nat) (f : Nat → Pg) (k s : Nat) : Bool := decide (s + k ≤ n) && (List.range k).all fun j => isz (f (s + j))
theorem runAtB_iff {n : Nat} {f : Nat → Pg} {k s : Nat} : runAtB n f k s = true ↔ RunAt n f k s := by
  unfold runAtB RunAt
  simp only [Bool.and_eq_true, decide_eq_true_eq, List.all_eq_true, List.mem_range]
  refine and_congr_right fun _ => ⟨fun h j h0 h1 => ?_, fun h j hj => h _ (by omega) (by omega)⟩
  have := h (j - s) (by omega)
  rwa [show s + (j - s) = j by omega] at this
def firstRun (n : Nat) (f : Nat → Pg) (k : Nat) : Option Nat := (List.range (n + 1)).find? (runAtB n f k)
theorem firstRun_none {n : Nat} {f : Nat → Pg} {k : Nat} : firstRun n f k = none ↔ ∀ s, ¬ RunAt n f k s := by
  unfold firstRun
  rw [List.find?_eq_none]
  refine ⟨fun h s hs => ?_, fun h s _ hs => h s (runAtB_iff.1 hs)⟩
  exact h s (List.mem_range.2 (by have := hs.1; omega)) (runAtB_iff.2 hs)
theorem firstRun_some {n : Nat} {f : Nat → Pg} {k s : Nat} (h : RunAt n f k s) (hl : ∀ s', s' < s → ¬ RunAt n f k s') : firstRun n f k = some s := by
  unfold firstRun
  rw [List.find?_range_eq_some]
  refine ⟨runAtB_iff.2 h, List.mem_range.2 (by have := h.1; omega), fun j hj => ?_⟩
  have := hl j hj
  rw [← runAtB_iff] at this
  simpa using this
theorem firstRun_spec {n : Nat} {f : Nat → Pg} {k s : Nat} (h : firstRun n f k = some s) : RunAt n f k s ∧ ∀ s', s' < s → ¬ RunAt n f k s' := by
  unfold firstRun at h
  rw [List.find?_range_eq_some] at h
  refine ⟨runAtB_iff.1 h.1, fun s' hs hr => ?_⟩
  have := h.2.2 s' hs
  rw [runAtB_iff.2 hr] at this
  cases this

/-- What taking answers: a page and an error. -/
def takeV (n : Nat) (f : Nat → Pg) (k : Nat) : Int := match firstRun n f k with | some s => s | none => 0
def takeE (n : Nat) (f : Nat → Pg) (k : Nat) : Int := match firstRun n f k with | some _ => 0 | none => 20
theorem takeV_some {n : Nat} {f : Nat → Pg} {k s : Nat} (h : firstRun n f k = some s) : takeV n f k = s := by unfold takeV; rw [h]
theorem takeE_some {n : Nat} {f : Nat → Pg} {k s : Nat} (h : firstRun n f k = some s) : takeE n f k = 0 := by unfold takeE; rw [h]
theorem takeV_none {n : Nat} {f : Nat → Pg} {k : Nat} (h : firstRun n f k = none) : takeV n f k = 0 := by unfold takeV; rw [h]
theorem takeE_none {n : Nat} {f : Nat → Pg} {k : Nat} (h : firstRun n f k = none) : takeE n f k = 20 := by unfold takeE; rw [h]

/-! ### What becomes of the pages -/
def upd (f : Nat → Pg) (i : Nat) (p : Pg) : Nat → Pg := fun j => if j = i then p else f j
theorem upd_at (f : Nat → Pg) (i : Nat) (p : Pg) : upd f i p i = p := by simp [upd]
theorem upd_ne {f : Nat → Pg} {i j : Nat} {p : Pg} (h : j ≠ i) : upd f i p j = f j := by simp [upd, h]
def putRun (f : Nat → Pg) (s k : Nat) : Nat → Pg := fun j => if j = s then ⟨2, 0, k⟩ else if s < j ∧ j < s + k then ⟨3, 0, 0⟩ else f j
def clearRun (f : Nat → Pg) (s k : Nat) : Nat → Pg := fun j => if s ≤ j ∧ j < s + k then fr0 else f j
def takeC (n : Nat) (f : Nat → Pg) (c : Int) : Nat → Pg := match firstRun n f 1 with | some s => upd f s ⟨1, c, 0⟩ | none => f
def takeR (n : Nat) (f : Nat → Pg) (k : Nat) : Nat → Pg := match firstRun n f k with | some s => putRun f s k | none => f
theorem takeC_some {n : Nat} {f : Nat → Pg} {c : Int} {s : Nat} (h : firstRun n f 1 = some s) : takeC n f c = upd f s ⟨1, c, 0⟩ := by unfold takeC; rw [h]
theorem takeC_none {n : Nat} {f : Nat → Pg} {c : Int} (h : firstRun n f 1 = none) : takeC n f c = f := by unfold takeC; rw [h]
theorem takeR_some {n : Nat} {f : Nat → Pg} {k s : Nat} (h : firstRun n f k = some s) : takeR n f k = putRun f s k := by unfold takeR; rw [h]
theorem takeR_none {n : Nat} {f : Nat → Pg} {k : Nat} (h : firstRun n f k = none) : takeR n f k = f := by unfold takeR; rw [h]
def sizeAt (f : Nat → Pg) (i : Nat) : Nat := if (f i).k = 2 then (f i).r.toNat else 1
def Givable (n : Nat) (f : Nat → Pg) (i : Int) : Prop := 0 ≤ i ∧ i < n ∧ (f i.toNat).k ≠ 0 ∧ (f i.toNat).k ≠ 3
open Classical in
noncomputable def giveF (n : Nat) (f : Nat → Pg) (i : Int) : Nat → Pg := if Givable n f i then clearRun f i.toNat (sizeAt f i.toNat) else f
open Classical in
noncomputable def giveE (n : Nat) (f : Nat → Pg) (i : Int) : Int := if Givable n f i then 0 else 1
theorem giveF_yes {n : Nat} {f : Nat → Pg} {i : Int} (h : Givable n f i) : giveF n f i = clearRun f i.toNat (sizeAt f i.toNat) := by unfold giveF; rw [if_pos h]
theorem giveF_no {n : Nat} {f : Nat → Pg} {i : Int} (h : ¬ Givable n f i) : giveF n f i = f := by unfold giveF; rw [if_neg h]
theorem giveE_yes {n : Nat} {f : Nat → Pg} {i : Int} (h : Givable n f i) : giveE n f i = 0 := by unfold giveE; rw [if_pos h]
theorem giveE_no {n : Nat} {f : Nat → Pg} {i : Int} (h : ¬ Givable n f i) : giveE n f i = 1 := by unfold giveE; rw [if_neg h]

/-! ### What holds of every table -/
structure OkAt (n : Nat) (f : Nat → Pg) (i : Nat) : Prop where
  kind : (f i).k = 0 ∨ (f i).k = 1 ∨ (f i).k = 2 ∨ (f i).k = 3
  zero : (f i).k = 0 → (f i).c = 0 ∧ (f i).r = 0
  one : (f i).k = 1 → (f i).r = 0
  two : (f i).k = 2 → 1 ≤ (f i).r ∧ (f i).r ≤ 16 ∧ (i : Int) + (f i).r ≤ n ∧ ∀ j : Nat, i < j → (j : Int) < i + (f i).r → (f j).k = 3
  three : (f i).k = 3 → (f i).r = 0 ∧ ∃ h : Nat, h < i ∧ (f h).k = 2 ∧ (i : Int) < h + (f h).r
def Wf (n : Nat) (f : Nat → Pg) : Prop := ∀ i, i < n → OkAt n f i
theorem Wf.isz {n : Nat} {f : Nat → Pg} (h : Wf n f) {i : Nat} (hi : i < n) : Pp.isz (f i) = true ↔ (f i).k = 0 :=
  ⟨fun g => (isz_iff.1 g).1, fun g => isz_iff.2 ⟨g, (h i hi).zero g⟩⟩
theorem wf_new (n : Nat) : Wf n fun _ => fr0 := by
  intro i hi
  constructor <;> simp [fr0]
theorem wf_take {n : Nat} {f : Nat → Pg} (h : Wf n f) {s : Nat} (hs : s < n) (hz : Pp.isz (f s) = true) (c : Int) : Wf n (upd f s ⟨1, c, 0⟩) := by
  have hk := (isz_iff.1 hz).1
  intro i hi
  by_cases e : i = s
  · subst e
    constructor <;> rw [upd_at] <;> simp
  · have ok := h i hi
    constructor <;> rw [upd_ne e]
    · exact ok.kind
    · exact ok.zero
    · exact ok.one
    · intro g
      obtain ⟨g1, g2, g3, g4⟩ := ok.two g
      refine ⟨g1, g2, g3, fun j j0 j1 => ?_⟩
      by_cases e2 : j = s
      · subst e2
        have := g4 j j0 j1
        omega
      · rw [upd_ne e2]; exact g4 j j0 j1
    · intro g
      obtain ⟨g0, b, b1, b2, b3⟩ := ok.three g
      refine ⟨g0, b, b1, ?_, ?_⟩
      all_goals
        have e2 : b ≠ s := by rintro rfl; omega
        rw [upd_ne e2]
        assumption
theorem putRun_head (f : Nat → Pg) (s k : Nat) : putRun f s k s = ⟨2, 0, k⟩ := by simp [putRun]
theorem putRun_rest {f : Nat → Pg} {s k j : Nat} (h : s < j) (h' : j < s + k) : putRun f s k j = ⟨3, 0, 0⟩ := by
  unfold putRun; rw [if_neg (by omega), if_pos ⟨h, h'⟩]
theorem putRun_out {f : Nat → Pg} {s k j : Nat} (h1 : 1 ≤ k) (h : j < s ∨ s + k ≤ j) : putRun f s k j = f j := by
  unfold putRun; rw [if_neg (by omega), if_neg (by omega)]
theorem wf_run {n : Nat} {f : Nat → Pg} (h : Wf n f) {s k : Nat} (h1 : 1 ≤ k) (h16 : k ≤ 16) (hr : RunAt n f k s) : Wf n (putRun f s k) := by
  obtain ⟨hn, hz⟩ := hr
  have hk : ∀ j, s ≤ j → j < s + k → (f j).k = 0 := fun j a b => (isz_iff.1 (hz j a b)).1
  intro i hi
  by_cases e : i = s
  · subst e
    constructor <;> rw [putRun_head]
    · simp
    · simp
    · simp
    · intro _
      refine ⟨by simp; omega, by simp; omega, by simp; omega, fun j j0 j1 => ?_⟩
      simp only at j1
      rw [putRun_rest j0 (by omega)]
    · simp
  · by_cases e1 : s < i ∧ i < s + k
    · constructor <;> rw [putRun_rest e1.1 e1.2]
      · simp
      · simp
      · simp
      · simp
      · intro _
        refine ⟨rfl, s, e1.1, ?_, ?_⟩ <;> rw [putRun_head]
        simp only
        omega
    · have eo : i < s ∨ s + k ≤ i := by omega
      have ok := h i hi
      constructor <;> rw [putRun_out h1 eo]
      · exact ok.kind
      · exact ok.zero
      · exact ok.one
      · intro g
        obtain ⟨g1, g2, g3, g4⟩ := ok.two g
        refine ⟨g1, g2, g3, fun j j0 j1 => ?_⟩
        have h3 := g4 j j0 j1
        by_cases ej : j < s ∨ s + k ≤ j
        · rw [putRun_out h1 ej]; exact h3
        · have := hk j (by omega) (by omega)
          omega
      · intro g
        obtain ⟨g0, b, b1, b2, b3⟩ := ok.three g
        refine ⟨g0, b, b1, ?_⟩
        have eb : b < s ∨ s + k ≤ b := by
          by_cases eb : b < s ∨ s + k ≤ b
          · exact eb
          · have := hk b (by omega) (by omega)
            omega
        rw [putRun_out h1 eb]
        exact ⟨b2, b3⟩
theorem clearRun_in {f : Nat → Pg} {s k j : Nat} (h : s ≤ j) (h' : j < s + k) : clearRun f s k j = fr0 := by unfold clearRun; rw [if_pos ⟨h, h'⟩]
theorem clearRun_out {f : Nat → Pg} {s k j : Nat} (h : j < s ∨ s + k ≤ j) : clearRun f s k j = f j := by unfold clearRun; rw [if_neg (by omega)]
/-- A page or run that can be given: how long it is, and what it holds. -/
theorem Wf.span {n : Nat} {f : Nat → Pg} (h : Wf n f) {i : Int} (hg : Givable n f i) :
    1 ≤ sizeAt f i.toNat ∧ sizeAt f i.toNat ≤ 16 ∧ i.toNat + sizeAt f i.toNat ≤ n ∧ (∀ j, i.toNat < j → j < i.toNat + sizeAt f i.toNat → (f j).k = 3) ∧ max 1 (f i.toNat).r = sizeAt f i.toNat := by
  obtain ⟨h0, h1, h2, h3⟩ := hg
  have ok := h i.toNat (by omega)
  unfold sizeAt
  by_cases e : (f i.toNat).k = 2
  · rw [if_pos e]
    obtain ⟨g1, g2, g3, g4⟩ := ok.two e
    refine ⟨by omega, by omega, by omega, fun j j0 j1 => g4 j j0 (by omega), by omega⟩
  · rw [if_neg e]
    have e1 : (f i.toNat).k = 1 := by
      rcases ok.kind with g | g | g | g
      · exact absurd g h2
      · exact g
      · exact absurd g e
      · exact absurd g h3
    refine ⟨by omega, by omega, by omega, fun j j0 j1 => by omega, ?_⟩
    rw [ok.one e1]
    rfl
theorem wf_give {n : Nat} {f : Nat → Pg} (h : Wf n f) (i : Int) : Wf n (giveF n f i) := by
  by_cases hg : Givable n f i
  · rw [giveF_yes hg]
    obtain ⟨s1, _, s3, s4, _⟩ := h.span hg
    have hk2 := hg.2.2.1
    have hk3 := hg.2.2.2
    generalize hs : i.toNat = s at *
    generalize hm : sizeAt f s = m at *
    intro j hj
    by_cases ej : s ≤ j ∧ j < s + m
    · constructor <;> rw [clearRun_in ej.1 ej.2] <;> simp [fr0]
    · have eo : j < s ∨ s + m ≤ j := by omega
      have ok := h j hj
      constructor <;> rw [clearRun_out eo]
      · exact ok.kind
      · exact ok.zero
      · exact ok.one
      · intro g
        obtain ⟨g1, g2, g3, g4⟩ := ok.two g
        refine ⟨g1, g2, g3, fun l l0 l1 => ?_⟩
        have h3 := g4 l l0 l1
        by_cases el : s ≤ l ∧ l < s + m
        · exfalso
          by_cases e2 : l = s
          · subst e2; exact hk3 h3
          · have hss : (f s).k = 3 := g4 s (by omega) (by omega)
            exact hk3 hss
        · rw [clearRun_out (by omega)]; exact h3
      · intro g
        obtain ⟨g0, b, b1, b2, b3⟩ := ok.three g
        refine ⟨g0, b, b1, ?_⟩
        have eb : b < s ∨ s + m ≤ b := by
          by_cases eb : b < s ∨ s + m ≤ b
          · exact eb
          · exfalso
            by_cases e2 : b = s
            · subst e2
              have : sizeAt f b = (f b).r.toNat := by unfold sizeAt; rw [if_pos b2]
              omega
            · have := s4 b (by omega) (by omega)
              omega
        rw [clearRun_out eb]
        exact ⟨b2, b3⟩
  · rw [giveF_no hg]; exact h
theorem wf_takeC {n : Nat} {f : Nat → Pg} (h : Wf n f) (c : Int) : Wf n (takeC n f c) := by
  cases e : firstRun n f 1 with
  | none => rw [takeC_none e]; exact h
  | some s =>
    rw [takeC_some e]
    obtain ⟨hr, _⟩ := firstRun_spec e
    exact wf_take h (by have := hr.1; omega) (hr.2 s (by omega) (by omega)) c
theorem wf_takeR {n : Nat} {f : Nat → Pg} (h : Wf n f) {k : Nat} (h1 : 1 ≤ k) (h16 : k ≤ 16) : Wf n (takeR n f k) := by
  cases e : firstRun n f k with
  | none => rw [takeR_none e]; exact h
  | some s => rw [takeR_some e]; exact wf_run h h1 h16 (firstRun_spec e).1

/-! ### How many are free -/
def cnt (f : Nat → Pg) : Nat → Nat
  | 0 => 0
  | n + 1 => cnt f n + if isz (f n) = true then 1 else 0
theorem cnt_le (f : Nat → Pg) (n : Nat) : cnt f n ≤ n := by
  induction n with
  | zero => exact Nat.le_refl _
  | succ n ih => unfold cnt; split <;> omega
theorem cnt_new (n : Nat) : cnt (fun _ => fr0) n = n := by
  induction n with
  | zero => rfl
  | succ n ih => unfold cnt; rw [ih, if_pos isz_fr0]
/-- Of a row that was free and is free no more. -/
theorem cnt_row {f g : Nat → Pg} {s m : Nat} (hin : ∀ j, s ≤ j → j < s + m → isz (f j) = true ∧ isz (g j) = false) (hout : ∀ j, j < s ∨ s + m ≤ j → g j = f j) (n : Nat) :
    cnt g n + (min n (s + m) - min n s) = cnt f n := by
  induction n with
  | zero => simp [cnt]
  | succ n ih =>
    unfold cnt
    by_cases e : s ≤ n ∧ n < s + m
    · obtain ⟨a, b⟩ := hin n e.1 e.2
      rw [a, b]
      simp
      omega
    · rw [hout n (by omega)]
      omega
theorem cnt_upd {f : Nat → Pg} {n s : Nat} {p : Pg} (hs : s < n) (hz : isz (f s) = true) (hp : isz p = false) : cnt (upd f s p) n + 1 = cnt f n := by
  have := cnt_row (f := f) (g := upd f s p) (s := s) (m := 1) (fun j a b => by
    obtain rfl : j = s := by omega
    exact ⟨hz, by rw [upd_at]; exact hp⟩) (fun j h => upd_ne (by omega)) n
  omega
theorem cnt_putRun {f : Nat → Pg} {n s k : Nat} (h1 : 1 ≤ k) (hr : RunAt n f k s) : cnt (putRun f s k) n + k = cnt f n := by
  have := cnt_row (f := f) (g := putRun f s k) (s := s) (m := k) (fun j a b => ⟨hr.2 j a b, by
    by_cases e : j = s
    · subst e; rw [putRun_head]; rfl
    · rw [putRun_rest (by omega) b]; rfl⟩) (fun j h => putRun_out h1 h) n
  have := hr.1
  omega
theorem cnt_clearRun {f : Nat → Pg} {n s m : Nat} (hn : s + m ≤ n) (hz : ∀ j, s ≤ j → j < s + m → isz (f j) = false) : cnt (clearRun f s m) n = cnt f n + m := by
  have := cnt_row (f := clearRun f s m) (g := f) (s := s) (m := m) (fun j a b => ⟨by rw [clearRun_in a b]; rfl, hz j a b⟩) (fun j h => (clearRun_out h).symm) n
  omega
theorem Wf.span_busy {n : Nat} {f : Nat → Pg} (h : Wf n f) {i : Int} (hg : Givable n f i) : ∀ j, i.toNat ≤ j → j < i.toNat + sizeAt f i.toNat → Pp.isz (f j) = false := by
  intro j h0 h1
  by_cases e : j = i.toNat
  · subst e; exact isz_not hg.2.2.1
  · exact isz_not (by rw [(h.span hg).2.2.2.1 j (by omega) h1]; decide)
theorem cnt_give {n : Nat} {f : Nat → Pg} (h : Wf n f) {i : Int} (hg : Givable n f i) : cnt (giveF n f i) n = cnt f n + sizeAt f i.toNat := by
  rw [giveF_yes hg]
  exact cnt_clearRun (h.span hg).2.2.1 (h.span_busy hg)

/-! ### The low end: no page below it is free -/
def Low (f : Nat → Pg) (l : Nat) : Prop := ∀ j, j < l → isz (f j) = false
theorem Low.run {n : Nat} {f : Nat → Pg} {l k s : Nat} (h : Low f l) (h1 : 1 ≤ k) (hr : RunAt n f k s) : l ≤ s := by
  by_cases e : l ≤ s
  · exact e
  · have := h s (by omega)
    rw [hr.2 s (by omega) (by omega)] at this
    cases this
end Go.Proofs.Ytcdeimmjhfimjaa.Pp
