/- Two pairs and a list of two: what plays keeps. No condition. -/
import Derived.Test.YtcdeimmjhfimjaaAw
namespace Go.Proofs.Ytcdeimmjhfimjaa
open Go.RowKit Go.Proofs.Ytcdeimmjhfimjaa.Pp
set_option linter.unusedVariables false

/-- What looked answers for the kinds from lo to hi. -/
def LookC (lo hi : Int) : Prop := ∀ (w : World) (ow : Nat → Nat) (pg : Nat) (a k c : Int), lo ≤ k → k ≤ hi → PairAt w ow pg false →
  Calls Try.prog 12 #[.pointer (some ⟨pg, 0, none⟩), .agg #[.int .i64 a, .int .i64 k, .int .i64 c]] w fun e w' => e = .returned (.bool true) ∧ PStep w ow pg false w'

def ptr (b : Nat) : Value := .pointer (some ⟨b, 0, none⟩)
structure PSt (w0 w : World) (lb p q l0 l1 : Nat) (z : Bool) : Prop where
  ex : ∃ ow : Nat → Nat, (∀ b, b < w0.heap.size → ow b = b) ∧ ow lb = lb ∧ ∀ x, (x = p ∨ x = q ∨ x = l0 ∨ x = l1) → PairAt w ow x z ∧ w0.heap.size ≤ x
  low : w0.heap.size ≤ lb
  blk : w.heap[lb]? = some (.cells #[.pointer (some ⟨l0, 0, none⟩), .pointer (some ⟨l1, 0, none⟩)] 22 (0, 0))
  bel : Below w0.heap.size w0 w
section
variable {w0 w w' : World} {lb p q l0 l1 : Nat} {z : Bool}
theorem PairAt.p6 {ow : Nat → Nat} {x : Nat} (h : PairAt w ow x z) : ∃ a b c d e f, P6 w x a b c d e f := by
  obtain ⟨tg, rg, g, cap, g', cap', n, f, lv, wv, sv, mv, LT, WT, LL, ρ, h⟩ := h
  exact ⟨_, _, _, _, _, _, h.p6⟩
theorem PSt.below (h : PSt w0 w lb p q l0 l1 z) (hb : Below w.heap.size w w') : PSt w0 w' lb p q l0 l1 z := by
  obtain ⟨⟨ow, h1, h2, h3⟩, h4, h5, h6⟩ := h
  exact ⟨⟨ow, h1, h2, fun x hx => ⟨(h3 x hx).1.below hb, (h3 x hx).2⟩⟩, h4, (hb.block lb (heap_lt h5)).trans h5, h6.trans (hb.mono h6.size)⟩
theorem PSt.ends (h : PSt w0 w lb p q l0 l1 z) : PSt w0 w lb p q l0 l1 true := by
  obtain ⟨⟨ow, h1, h2, h3⟩, h4, h5, h6⟩ := h
  exact ⟨⟨ow, h1, h2, fun x hx => ⟨(h3 x hx).1.ends, (h3 x hx).2⟩⟩, h4, h5, h6⟩
theorem PairAt.ne_lb {ow : Nat → Nat} {x : Nat} (h : PairAt w ow x z) {cs : Array Value} (hb : w.heap[lb]? = some (.cells cs 22 (0, 0))) : lb ≠ x := by
  obtain ⟨a, b, c, d, e, f, hp⟩ := h.p6
  exact heap_ne hb hp (by decide)
/-- A call on a pair: it is some such world. -/
theorem PSt.step {Q : (World → Prop) → Prop} (h : PSt w0 w lb p q l0 l1 z) {x : Nat} (hx : x = p ∨ x = q ∨ x = l0 ∨ x = l1) (hc : ∀ ow, PairAt w ow x z → Q (fun w' => PStep w ow x z w')) (hm : ∀ S T : World → Prop, (∀ w', S w' → T w') → Q S → Q T) : Q (fun w' => PSt w0 w' lb p q l0 l1 z) := by
  obtain ⟨⟨ow, h1, h2, h3⟩, h4, h5, h6⟩ := h
  refine hm _ _ (fun w' hs => ?_) (hc ow (h3 x hx).1)
  have hlx := (h3 x hx).1.ne_lb h5
  refine ⟨⟨owx ow w.heap.size x, fun b hb => ?_, ?_, fun y hy => ?_⟩, h4, ?_, ?_⟩
  · rw [owx_old (Nat.lt_of_lt_of_le hb h6.size)]; exact h1 b hb
  · rw [owx_old (heap_lt h5)]; exact h2
  · by_cases e : y = x
    · subst e; exact ⟨hs.1, (h3 y hy).2⟩
    · exact ⟨(h3 y hy).1.other hs.2 e, (h3 y hy).2⟩
  · exact (hs.2.block lb (heap_lt h5) (by rw [h2]; exact hlx)).trans h5
  · exact h6.trans (hs.2.below h6.size fun k hk e => by
      have := h1 k hk
      have := (h3 x hx).2
      omega)
theorem PSt.call (h : PSt w0 w lb p q l0 l1 z) {x : Nat} (hx : x = p ∨ x = q ∨ x = l0 ∨ x = l1) {fn : Nat} {args : Array Value} (hc : ∀ ow, PairAt w ow x z → Calls Try.prog fn args w fun e w' => e = .returned (.bool true) ∧ PStep w ow x z w') :
    Calls Try.prog fn args w fun e w' => e = .returned (.bool true) ∧ PSt w0 w' lb p q l0 l1 z :=
  PSt.step (Q := fun S => Calls Try.prog fn args w fun e w' => e = .returned (.bool true) ∧ S w') h hx hc fun S T hST hS => hS.mono fun e w' ⟨a, b⟩ => ⟨a, hST _ b⟩
theorem PSt.init {w1 w2 w3 : World} (hp : w.heap.size ≤ p) (hb1 : Below w.heap.size w w1) (h1 : ∀ ow, PairAt w1 (owx ow w.heap.size p) p z) (hq : w1.heap.size ≤ q) (hb2 : Below w1.heap.size w1 w2) (h2 : ∀ ow, PairAt w2 (owx ow w1.heap.size q) q z) (hb3 : Below w2.heap.size w2 w3) :
    PSt w (w3.alloc (.cells #[.pointer (some ⟨p, 0, none⟩), .pointer (some ⟨q, 0, none⟩)] 22)) w3.heap.size p q p q z := by
  have hba : Below w3.heap.size w3 (w3.alloc (.cells #[.pointer (some ⟨p, 0, none⟩), .pointer (some ⟨q, 0, none⟩)] 22)) := (Below.refl _ _).alloc (Nat.le_refl _) _
  have s1 := hb1.size
  have s2 := hb2.size
  have s3 := hb3.size
  have hb24 : Below w2.heap.size w2 (w3.alloc (.cells #[.pointer (some ⟨p, 0, none⟩), .pointer (some ⟨q, 0, none⟩)] 22)) := bthen hb3 hba
  have hb14 := bthen hb2 hb24
  refine ⟨⟨owx (owx (owx id w.heap.size p) w1.heap.size q) w3.heap.size w3.heap.size, fun b hb => ?_, owx_new (Nat.le_refl _), fun x hx => ?_⟩, by omega, World.alloc_heap_new _ _, bthen hb1 hb14⟩
  · rw [owx_old (by omega), owx_old (by omega), owx_old hb]; rfl
  · have e1 : PairAt (w3.alloc (.cells #[.pointer (some ⟨p, 0, none⟩), .pointer (some ⟨q, 0, none⟩)] 22)) (owx (owx (owx id w.heap.size p) w1.heap.size q) w3.heap.size w3.heap.size) p z :=
      (h1 id).kept (fun b _ hl => hb14.block b hl) fun b hb hl => by rw [owx_old (by omega), owx_old hl]; exact hb
    have e2 : PairAt (w3.alloc (.cells #[.pointer (some ⟨p, 0, none⟩), .pointer (some ⟨q, 0, none⟩)] 22)) (owx (owx (owx id w.heap.size p) w1.heap.size q) w3.heap.size w3.heap.size) q z :=
      (h2 (owx id w.heap.size p)).kept (fun b _ hl => hb24.block b hl) fun b hb hl => by rw [owx_old (by omega)]; exact hb
    rcases hx with rfl | rfl | rfl | rfl
    · exact ⟨e1, hp⟩
    · exact ⟨e2, by omega⟩
    · exact ⟨e1, hp⟩
    · exact ⟨e2, by omega⟩
theorem PSt.copied {w5 : World} (h : PSt w0 w lb p q l0 l1 false) (hb : Below w.heap.size w w5) {tg rg g cap g' cap' n : Nat} {f : Nat → Pg} (hT : Tab w5 tg g n cap f) (hR : RTab w5 rg g' n cap' f) (ht : w.heap.size ≤ tg) (hg : w.heap.size ≤ g) (hr : w.heap.size ≤ rg) (hg' : w.heap.size ≤ g') (hne : g ≠ g') (i : Nat) (hi : i < 2) :
    PSt w0 ((w5.alloc (Obj.cells #[.pointer (some ⟨tg, 0, none⟩), .pointer (some ⟨rg, 0, none⟩), .slice none 0 0, .slice none 0 0, .slice none 0 0, .slice none 0 0] 60)).setCell ⟨lb, i, none⟩ (.pointer (some ⟨w5.heap.size, 0, none⟩))) lb p q (if i = 0 then w5.heap.size else l0) (if i = 0 then l1 else w5.heap.size) false := by
  obtain ⟨⟨ow, h1, h2, h3⟩, h4, h5, h6⟩ := h
  have hba : Below w5.heap.size w5 (w5.alloc (Obj.cells #[.pointer (some ⟨tg, 0, none⟩), .pointer (some ⟨rg, 0, none⟩), .slice none 0 0, .slice none 0 0, .slice none 0 0, .slice none 0 0] 60)) := (Below.refl _ _).alloc (Nat.le_refl _) _
  have hb6 := bthen hb hba
  have s5 := hb.size
  have hlb := heap_lt h5
  have hn : PairAt (w5.alloc (Obj.cells #[.pointer (some ⟨tg, 0, none⟩), .pointer (some ⟨rg, 0, none⟩), .slice none 0 0, .slice none 0 0, .slice none 0 0, .slice none 0 0] 60)) (owx ow w.heap.size w5.heap.size) w5.heap.size false :=
    PairG.fresh (World.alloc_heap_new _ _) (hT.below hba) (hR.below hba) ⟨owx_new s5, owx_new ht, owx_new hr, owx_new hg, owx_new hg'⟩ hne
  have hlo : owx ow w.heap.size w5.heap.size lb = lb := by rw [owx_old hlb]; exact h2
  have hset : ∀ y, y ≠ lb → PairAt (w5.alloc (Obj.cells #[.pointer (some ⟨tg, 0, none⟩), .pointer (some ⟨rg, 0, none⟩), .slice none 0 0, .slice none 0 0, .slice none 0 0, .slice none 0 0] 60)) (owx ow w.heap.size w5.heap.size) y false →
      PairAt ((w5.alloc (Obj.cells #[.pointer (some ⟨tg, 0, none⟩), .pointer (some ⟨rg, 0, none⟩), .slice none 0 0, .slice none 0 0, .slice none 0 0, .slice none 0 0] 60)).setCell ⟨lb, i, none⟩ (.pointer (some ⟨w5.heap.size, 0, none⟩))) (owx ow w.heap.size w5.heap.size) y false := fun y hy hP =>
    hP.kept (fun b hb _ => heap_set_far (p := ⟨lb, i, none⟩) (fun e => by simp only at e; subst e; rw [hlo] at hb; exact hy hb.symm) _) fun b hb _ => hb
  refine ⟨⟨owx ow w.heap.size w5.heap.size, fun b hb => ?_, hlo, fun y hy => ?_⟩, h4, ?_, ?_⟩
  · rw [owx_old (Nat.lt_of_lt_of_le hb h6.size)]; exact h1 b hb
  · by_cases e : y = w5.heap.size
    · subst e
      exact ⟨hset _ (by omega) hn, Nat.le_trans h6.size s5⟩
    · have hy' : y = p ∨ y = q ∨ y = l0 ∨ y = l1 := by
        rcases hy with hy | hy | hy | hy
        · exact .inl hy
        · exact .inr (.inl hy)
        · split at hy
          · exact absurd hy e
          · exact .inr (.inr (.inl hy))
        · split at hy
          · exact .inr (.inr (.inr hy))
          · exact absurd hy e
      exact ⟨hset y (fun e2 => (h3 y hy').1.ne_lb h5 e2.symm) ((h3 y hy').1.kept (fun b _ hl => hb6.block b hl) fun b hb hl => by rw [owx_old hl]; exact hb), (h3 y hy').2⟩
  · have h7 : (w5.alloc (Obj.cells #[.pointer (some ⟨tg, 0, none⟩), .pointer (some ⟨rg, 0, none⟩), .slice none 0 0, .slice none 0 0, .slice none 0 0, .slice none 0 0] 60)).heap[lb]? = some (.cells #[.pointer (some ⟨l0, 0, none⟩), .pointer (some ⟨l1, 0, none⟩)] 22 (0, 0)) := (hb6.block lb hlb).trans h5
    rw [heap_set_same h7]
    have : i = 0 ∨ i = 1 := by omega
    rcases this with rfl | rfl <;> rfl
  · exact (h6.trans (hb6.mono h6.size)).setCell (p := ⟨lb, i, none⟩) h4 _
end
theorem and1 (a : Int) : bits .and .i64 a 1 = 0 ∨ bits .and .i64 a 1 = 1 := by
  have e : bits .and .i64 a 1 = IntKind.i64.wrap (((BitVec.ofInt 64 a) &&& (BitVec.ofInt 64 1)).toNat : Int) := rfl
  have h1 : (BitVec.ofInt 64 1).toNat = 1 := rfl
  have hl : ((BitVec.ofInt 64 a) &&& (BitVec.ofInt 64 1)).toNat ≤ 1 := by
    rw [BitVec.toNat_and, h1]
    exact Nat.and_le_right
  rw [e, IntWalk.i64_in _ (by omega)]
  omega
end Go.Proofs.Ytcdeimmjhfimjaa
