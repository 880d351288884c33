/- What mark keeps: each list it notes bears its mark. No condition. -/
import Derived.Test.YtcdeimmjhfimjaaPm
namespace Go.Proofs.Ytcdeimmjhfimjaa
open Go.RowKit Go.Proofs.Ytcdeimmjhfimjaa.Pp
set_option linter.unusedVariables false

/-- A list that is noted: its block, its length, its capacity, its mark. -/
structure LE where
  b : Nat
  n : Nat
  cap : Nat
  m : Int
def LE.val (e : LE) : Value := .slice (some ⟨e.b, 0, none⟩) e.n e.cap
def LE.mark (e : LE) : Value := .int .i64 e.m
/-- The lists and the marks of a pair. -/
structure MP (w : World) (sv mv : Value) (LL : List LE) : Prop where
  ls : Arr w 43 sv (LL.map LE.val)
  ms : Arr w 3 mv (LL.map LE.mark)
  pgs : ∀ e, e ∈ LL → PgAt w e.b e.n e.cap (mkd e.m)
section
variable {w w' : World} {sv mv : Value} {LL : List LE}
theorem MP.fr {L : List Nat} (h : MP w sv mv LL) (hf : Fr L w w') (h1 : ∀ b, b ∈ ob sv → b ∉ L) (h2 : ∀ b, b ∈ ob mv → b ∉ L) (h3 : ∀ e, e ∈ LL → e.b ∉ L) : MP w' sv mv LL :=
  ⟨h.ls.fr hf h1, h.ms.fr hf h2, fun e he => (h.pgs e he).fr hf (h3 e he)⟩
theorem MP.below (h : MP w sv mv LL) (hb : Below w.heap.size w w') : MP w' sv mv LL := ⟨h.ls.below hb, h.ms.below hb, fun e he => (h.pgs e he).below hb⟩
theorem MP.alloc (h : MP w sv mv LL) (o : Obj) : MP (w.alloc o) sv mv LL := h.below ((Below.refl _ _).alloc (Nat.le_refl _) o)
end
theorem PgAt.blk47 {w : World} {g n cap : Nat} {f : Nat → Pg} (h : PgAt w g n cap f) : ∃ cur : Array Value, w.heap[g]? = some (.cells cur 47 (0, 0)) := by
  obtain ⟨cur, hb, _⟩ := h.blk
  exact ⟨cur, hb⟩
theorem PgAt.not_arr {w : World} {g n cap : Nat} {f : Nat → Pg} (h : PgAt w g n cap f) {E : TypeId} {v : Value} {xs : List Value} (ha : Arr w E v xs) (hE : 47 ≠ E) : g ∉ ob v := by
  obtain ⟨cur, hb⟩ := h.blk47
  exact ha.ne hb hE
theorem PgAt.ne_p6 {w : World} {g n cap : Nat} {f : Nat → Pg} (h : PgAt w g n cap f) {pg : Nat} {a b c d e k : Value} (hp : P6 w pg a b c d e k) : g ≠ pg := by
  obtain ⟨cur, hb⟩ := h.blk47
  exact heap_ne hb hp (by decide)

/-- What mark has done so far, begun in world w0 on the list in block bl. -/
structure MSt (w0 w : World) (pg : Nat) (a b c d sv0 mv0 : Value) (LL : List LE) (bl : Nat) (LN : List LE) (sv mv : Value) : Prop where
  p6 : P6 w pg a b c d sv mv
  mp : MP w sv mv (LL ++ LN)
  nb : ∀ e, e ∈ LN → e.b = bl ∨ w0.heap.size ≤ e.b
  fr : Fr (pg :: bl :: (ob sv0 ++ ob mv0)) w0 w
  os : ∀ x, x ∈ ob sv → x ∈ ob sv0 ∨ w0.heap.size ≤ x
  om : ∀ x, x ∈ ob mv → x ∈ ob mv0 ∨ w0.heap.size ≤ x
section
variable {w0 w : World} {pg bl : Nat} {a b c d sv0 mv0 sv mv : Value} {LL LN : List LE}
theorem MSt.pgls (h : MSt w0 w pg a b c d sv0 mv0 LL bl LN sv mv) : pg ∉ ob sv := h.mp.ls.ne h.p6 (by decide)
theorem MSt.pgms (h : MSt w0 w pg a b c d sv0 mv0 LL bl LN sv mv) : pg ∉ ob mv := h.mp.ms.ne h.p6 (by decide)
/-- The frame of a step that touches blocks of the call's own, or those that it may. -/
theorem MSt.onto (h : MSt w0 w pg a b c d sv0 mv0 LL bl LN sv mv) {L : List Nat} {w' : World} (hf : Fr L w w') (hL : ∀ x, x ∈ L → x = pg ∨ x = bl ∨ x ∈ ob sv0 ∨ x ∈ ob mv0 ∨ w0.heap.size ≤ x) : Fr (pg :: bl :: (ob sv0 ++ ob mv0)) w0 w' :=
  ⟨hf.os.trans h.fr.os, hf.tape.trans h.fr.tape, hf.output.trans h.fr.output, Nat.le_trans h.fr.size hf.size, fun k hk hn => by
    simp only [List.mem_cons, List.mem_append, not_or] at hn
    refine (hf.block k (Nat.lt_of_lt_of_le hk h.fr.size) fun hx => ?_).trans (h.fr.block k hk (by simp only [List.mem_cons, List.mem_append, not_or]; exact hn))
    rcases hL k hx with e | e | e | e | e
    · exact hn.1 e
    · exact hn.2.1 e
    · exact hn.2.2.1 e
    · exact hn.2.2.2 e
    · omega⟩
/-- A new block changes nothing of it. -/
theorem MSt.alloc (h : MSt w0 w pg a b c d sv0 mv0 LL bl LN sv mv) (o : Obj) : MSt w0 (w.alloc o) pg a b c d sv0 mv0 LL bl LN sv mv :=
  ⟨h.p6.alloc o, h.mp.alloc o, h.nb, h.fr.alloc o, h.os, h.om⟩
/-- A step that touches one row of pages at which no noted list of another mark lies. -/
theorem MSt.row (h : MSt w0 w pg a b c d sv0 mv0 LL bl LN sv mv) {g : Nat} {w' : World} (hf : Fr [g] w w') {n cap : Nat} {f : Nat → Pg} (hg : PgAt w g n cap f) (hgb : g = bl ∨ w0.heap.size ≤ g)
    (hn : ∀ e, e ∈ LL ++ LN → PgAt w' e.b e.n e.cap (mkd e.m)) : MSt w0 w' pg a b c d sv0 mv0 LL bl LN sv mv := by
  have h1 := hg.not_arr h.mp.ls (by decide)
  have h2 := hg.not_arr h.mp.ms (by decide)
  refine ⟨h.p6.fr hf (by simp; exact fun e => hg.ne_p6 h.p6 e.symm), ⟨h.mp.ls.fr hf (fun x hx e => by simp at e; subst e; exact h1 hx), h.mp.ms.fr hf (fun x hx e => by simp at e; subst e; exact h2 hx), hn⟩, h.nb, h.onto hf (fun x hx => ?_), h.os, h.om⟩
  simp at hx
  subst hx
  rcases hgb with e | e
  · exact .inr (.inl e)
  · exact .inr (.inr (.inr (.inr e)))
/-- The marks behind the first half of a push. -/
theorem MSt.ms_after (h : MSt w0 w pg a b c d sv0 mv0 LL bl LN sv mv) {o1 o2 : Obj} {w2 : World} {u : Value} (hf : Fr (ob sv) (w.alloc o1) w2) : Arr ((w2.setCell ⟨pg, 4, none⟩ u).alloc o2) 3 mv ((LL ++ LN).map LE.mark) :=
  (((h.mp.ms.alloc o1).fr hf (h.mp.ls.ne' h.mp.ms (by decide))).far h.pgms u).alloc o2
theorem MSt.p6_after (h : MSt w0 w pg a b c d sv0 mv0 LL bl LN sv mv) {o1 : Obj} {w2 : World} (hf : Fr (ob sv) (w.alloc o1) w2) : P6 w2 pg a b c d sv mv := (h.p6.alloc o1).fr hf h.pgls
theorem MSt.p6_last (h : MSt w0 w pg a b c d sv0 mv0 LL bl LN sv mv) {o1 o2 : Obj} {w2 w3 : World} {u : Value} (hf : Fr (ob sv) (w.alloc o1) w2) (hf2 : Fr (ob mv) ((w2.setCell ⟨pg, 4, none⟩ u).alloc o2) w3) : P6 w3 pg a b c d u mv :=
  ((((h.p6_after hf).set4 u).alloc o2).fr hf2 h.pgms)
/-- What both halves of a push touch. -/
theorem MSt.push_fr (h : MSt w0 w pg a b c d sv0 mv0 LL bl LN sv mv) {o1 o2 : Obj} {w2 w3 : World} {u u' : Value} (hf : Fr (ob sv) (w.alloc o1) w2) (hf2 : Fr (ob mv) ((w2.setCell ⟨pg, 4, none⟩ u).alloc o2) w3) :
    Fr (pg :: (ob sv ++ ob mv)) w (w3.setCell ⟨pg, 5, none⟩ u') := by
  have s1 : Fr (pg :: (ob sv ++ ob mv)) w (w.alloc o1) := (Fr.refl _ _).alloc o1
  have s2 : Fr (pg :: (ob sv ++ ob mv)) (w.alloc o1) w2 := hf.more fun k _ hk => by simp [hk]
  have s3 : Fr (pg :: (ob sv ++ ob mv)) w2 ((w2.setCell ⟨pg, 4, none⟩ u).alloc o2) := ((Fr.refl _ _).setCell (.inl (by simp)) _).alloc o2
  have s4 : Fr (pg :: (ob sv ++ ob mv)) ((w2.setCell ⟨pg, 4, none⟩ u).alloc o2) w3 := hf2.more fun k _ hk => by simp [hk]
  exact (((s1.trans s2).trans s3).trans s4).setCell (.inl (by simp)) _
theorem MSt.push_far (h : MSt w0 w pg a b c d sv0 mv0 LL bl LN sv mv) {g n cap : Nat} {f : Nat → Pg} (hg : PgAt w g n cap f) : g ∉ pg :: (ob sv ++ ob mv) := by
  simp only [List.mem_cons, List.mem_append, not_or]
  exact ⟨hg.ne_p6 h.p6, hg.not_arr h.mp.ls (by decide), hg.not_arr h.mp.ms (by decide)⟩
/-- A push: one more list is noted. -/
theorem MSt.push (h : MSt w0 w pg a b c d sv0 mv0 LL bl LN sv mv) {e : LE} (he : PgAt w e.b e.n e.cap (mkd e.m)) (heb : e.b = bl ∨ w0.heap.size ≤ e.b) {o1 o2 : Obj} {w2 w3 : World} {u u' : Value}
    (hA : Arr w2 43 u ((LL ++ LN).map LE.val ++ [e.val])) (hf : Fr (ob sv) (w.alloc o1) w2) (ho : ∀ x, x ∈ ob u → x ∈ ob sv ∨ (w.alloc o1).heap.size ≤ x)
    (hA2 : Arr w3 3 u' ((LL ++ LN).map LE.mark ++ [e.mark])) (hf2 : Fr (ob mv) ((w2.setCell ⟨pg, 4, none⟩ u).alloc o2) w3) (ho2 : ∀ x, x ∈ ob u' → x ∈ ob mv ∨ ((w2.setCell ⟨pg, 4, none⟩ u).alloc o2).heap.size ≤ x) :
    MSt w0 (w3.setCell ⟨pg, 5, none⟩ u') pg a b c d sv0 mv0 LL bl (LN ++ [e]) u u' := by
  have hF := h.push_fr (u' := u') hf hf2
  have hz1 : w.heap.size ≤ (w.alloc o1).heap.size := by simp
  have hz2 : w.heap.size ≤ ((w2.setCell ⟨pg, 4, none⟩ u).alloc o2).heap.size := by have := hf.size; simp [World.setCell] at this ⊢; omega
  have hp2 : P6 w2 pg a b c d sv mv := h.p6_after hf
  have hpu : pg ∉ ob u := hA.ne hp2 (by decide)
  have hp3 := h.p6_last hf hf2
  have hpu' : pg ∉ ob u' := hA2.ne hp3 (by decide)
  have hAu : Arr ((w2.setCell ⟨pg, 4, none⟩ u).alloc o2) 43 u ((LL ++ LN).map LE.val ++ [e.val]) := (hA.far hpu u).alloc o2
  have hmm : Arr ((w2.setCell ⟨pg, 4, none⟩ u).alloc o2) 3 mv ((LL ++ LN).map LE.mark) := h.ms_after hf
  have hA3 : Arr w3 43 u ((LL ++ LN).map LE.val ++ [e.val]) := hAu.fr hf2 fun x hx => hmm.ne' hAu (by decide) x hx
  have happ : LL ++ (LN ++ [e]) = (LL ++ LN) ++ [e] := (List.append_assoc _ _ _).symm
  refine ⟨hp3.set5 u', ⟨?_, ?_, fun x hx => ?_⟩, fun x hx => ?_, h.onto hF fun x hx => ?_, fun x hx => ?_, fun x hx => ?_⟩
  · rw [happ, List.map_append]; exact hA3.far hpu u'
  · rw [happ, List.map_append]; exact hA2.far hpu' u'
  · rw [happ, List.mem_append] at hx
    rcases hx with hx | hx
    · exact (h.mp.pgs x hx).fr hF (h.push_far (h.mp.pgs x hx))
    · simp at hx
      subst hx
      exact he.fr hF (h.push_far he)
  · rcases List.mem_append.1 hx with hx | hx
    · exact h.nb x hx
    · simp at hx; subst hx; exact heb
  · simp only [List.mem_cons, List.mem_append] at hx
    rcases hx with hx | hx | hx
    · exact .inl hx
    · rcases h.os x hx with e1 | e1
      · exact .inr (.inr (.inl e1))
      · exact .inr (.inr (.inr (.inr e1)))
    · rcases h.om x hx with e1 | e1
      · exact .inr (.inr (.inr (.inl e1)))
      · exact .inr (.inr (.inr (.inr e1)))
  · rcases ho x hx with e1 | e1
    · exact h.os x e1
    · exact .inr (by have := h.fr.size; omega)
  · rcases ho2 x hx with e1 | e1
    · exact h.om x e1
    · exact .inr (by have := h.fr.size; omega)
end
/-- The lists that this call has noted: where they share far's block they are no longer than far. -/
def Near (LN : List LE) (M : Int) (g n cap : Nat) : Prop := ∀ e, e ∈ LN → e.m = M ∧ (e.b = g → e.n ≤ n ∧ e.cap = cap)
theorem MSt.far {w wx : World} {pg bl : Nat} {a b c d sv0 mv0 sv mv : Value} {LL LN : List LE} (h : MSt w wx pg a b c d sv0 mv0 LL bl LN sv mv) (hM : MP w sv0 mv0 LL) (hbl : ∀ e, e ∈ LL → e.b ≠ bl)
    {bf n cf : Nat} {M : Int} (hfar : PgAt wx bf n cf (mkd M)) (hbf : bf = bl ∨ w.heap.size ≤ bf) (hnear : Near LN M bf n cf) {o : Obj} {w2 : World} {b' cap' : Nat} (hP2 : PgAt w2 b' (n + 1) cap' (mkd M))
    (hc : b' = bf ∧ cap' = cf ∧ Fr [bf] (wx.alloc o) w2 ∨ (wx.alloc o).heap.size ≤ b' ∧ Fr [] (wx.alloc o) w2) :
    MSt w w2 pg a b c d sv0 mv0 LL bl LN sv mv ∧ (b' = bl ∨ w.heap.size ≤ b') ∧ Near LN M b' (n + 1) cap' := by
  have hsz := h.fr.size
  rcases hc with ⟨rfl, rfl, hf⟩ | ⟨hge, hf⟩
  · refine ⟨(h.alloc o).row hf (hfar.alloc o) hbf fun e he => ?_, hbf, fun e he => ⟨(hnear e he).1, fun hb => ⟨by have := (hnear e he).2 hb; omega, ((hnear e he).2 hb).2⟩⟩⟩
    rcases List.mem_append.1 he with hL | hN
    · refine ((h.alloc o).mp.pgs e he).fr hf ?_
      simp only [List.mem_singleton]
      intro hb
      rcases hbf with e1 | e1
      · exact hbl e hL (hb.trans e1)
      · have := (hM.pgs e hL).lt
        omega
    · by_cases hb : e.b = b'
      · obtain ⟨h1, h2⟩ := (hnear e hN).2 hb
        rw [hb, h2, (hnear e hN).1]
        exact hP2.fewer (by omega)
      · exact ((h.alloc o).mp.pgs e he).fr hf (by simpa using hb)
  · have hz : w.heap.size ≤ b' := by simp at hge; omega
    refine ⟨?_, .inr hz, fun e he => ⟨(hnear e he).1, fun hb => ?_⟩⟩
    · have hb2 := hf.none
      have ha := h.alloc o
      exact ⟨ha.p6.below hb2, ha.mp.below hb2, ha.nb, ha.onto hf (fun x hx => by cases hx), ha.os, ha.om⟩
    · have := (h.mp.pgs e (List.mem_append_right _ he)).lt
      simp at hge
      omega
theorem news_after {w2 : World} {p : Addr} {v x : Value} {t : TypeId} : ∀ j u, [x][j]? = some u → ((w2.setCell p v).alloc (.cells #[x] t)).cell? ((⟨w2.heap.size, 0, none⟩ : Addr).add j) = some u := by
  have hs : (w2.setCell p v).heap.size = w2.heap.size := by simp [World.setCell]
  rw [← hs]
  exact cell_one_new _ _ _
theorem news_page (w : World) (a b c : Value) : ∀ j u, [a, b, c][j]? = some u → (w.alloc (.cells #[a, b, c] 47)).cell? ((⟨w.heap.size, 0, none⟩ : Addr).add j) = some u := by
  intro j u hu
  rw [WideShapes.add_plain, Nat.zero_add, heap_cell (heap_alloc_new w (.cells #[a, b, c] 47))]
  simpa using hu
end Go.Proofs.Ytcdeimmjhfimjaa
