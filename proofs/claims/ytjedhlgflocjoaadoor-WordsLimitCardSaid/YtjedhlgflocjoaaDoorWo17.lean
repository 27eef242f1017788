/- Words: what a search is parsed into; Parse of the reference. -/
import Derived.Test.YtjedhlgflocjoaaDoorWo16
namespace Wd
/-- what has been gathered of a search: needed stems, phrases, negated stems -/
structure PQ where
  need : List Str
  phr : List Str
  neg : List Str
def phraseOf (p : Str) : Str := lower (trm p)
def PQ.inside (q : PQ) (p : Str) : PQ := { need := q.need ++ stemsOf (tokens p), phr := if phraseOf p = [] ∨ phraseOf p ∈ q.phr then q.phr else q.phr ++ [phraseOf p], neg := q.neg }
def PQ.outside (q : PQ) (p : Str) : PQ := { need := q.need ++ stemsOf (yesOf (words p)), phr := q.phr, neg := q.neg ++ stemsOf (noOf (words p)) }
def PQ.all : PQ → Bool → List Str → PQ
  | q, _, [] => q
  | q, true, p :: ps => (q.inside p).all false ps
  | q, false, p :: ps => (q.outside p).all true ps
def PQ.none : PQ := ⟨[], [], []⟩
/-- the parts between quotation marks -/
def cutQ : Str → Str → List Str
  | cur, [] => [cur]
  | cur, c :: t => if c = 34 then cur :: cutQ [] t else cutQ (cur ++ [c]) t
def parsed (s : Str) : PQ := PQ.none.all false (cutQ [] s)
def P (s : Str) (b i : Nat) : List Str := if i ≤ s.length then cutQ ((s.drop b).take (i - b)) (s.drop i) else []
theorem P_start (s : Str) : P s 0 0 = cutQ [] s := by unfold P; rw [if_pos (by omega)]; simp
theorem P_on (s : Str) (b i : Nat) (hb : b ≤ i) (h : i < s.length) (hq : s[i] ≠ 34) : P s b i = P s b (i + 1) := by
  unfold P
  rw [if_pos (by omega), if_pos (by omega), drop_at s i h, cut_next s b i hb h]
  conv => lhs; unfold cutQ
  rw [if_neg hq]
theorem P_emit (s : Str) (b i : Nat) (hb : b ≤ i) (hi : i ≤ s.length) (hq : ∀ h : i < s.length, s[i] = 34) : P s b i = (s.drop b).take (i - b) :: P s (i + 1) (i + 1) := by
  by_cases h : i < s.length
  · unfold P
    rw [if_pos (by omega), if_pos (by omega), drop_at s i h]
    conv => lhs; unfold cutQ
    rw [if_pos (hq h)]
    simp
  · obtain rfl : i = s.length := by omega
    unfold P
    rw [if_pos (by omega), if_neg (by omega), List.drop_length]
    rfl
theorem P_past (s : Str) (b : Nat) : P s b (s.length + 1) = [] := by unfold P; exact if_neg (by omega)
theorem yesOf_len (l : List (Str × Bool)) : (yesOf l).length ≤ l.length := by unfold yesOf; rw [List.length_map]; exact List.length_filter_le _ _
theorem noOf_len (l : List (Str × Bool)) : (noOf l).length ≤ l.length := by unfold noOf; rw [List.length_map]; exact List.length_filter_le _ _
theorem tokens_len (s : Str) : (tokens s).length ≤ s.length := by unfold tokens; rw [List.length_map]; exact words_len s
theorem tokens_each (s : Str) : ∀ x ∈ tokens s, x.length ≤ s.length := fun x hx => by
  unfold tokens at hx
  obtain ⟨y, hy, rfl⟩ := List.mem_map.1 hx
  exact wordsG_each s [] false false s.length (by simp) y hy
theorem yesOf_each (s : Str) : ∀ x ∈ yesOf (words s), x.length ≤ s.length := fun x hx => by
  unfold yesOf at hx
  obtain ⟨y, hy, rfl⟩ := List.mem_map.1 hx
  exact wordsG_each s [] false false s.length (by simp) y (List.mem_filter.1 hy).1
theorem noOf_each (s : Str) : ∀ x ∈ noOf (words s), x.length ≤ s.length := fun x hx => by
  unfold noOf at hx
  obtain ⟨y, hy, rfl⟩ := List.mem_map.1 hx
  exact wordsG_each s [] false false s.length (by simp) y (List.mem_filter.1 hy).1
theorem uniq_more (a b : List Str) : addAll (uniq a) b = uniq (a ++ b) := by unfold uniq; rw [addAll_append]
theorem trm_len (l : Str) : (trm l).length ≤ l.length := by
  unfold trm Go.Lib.trimRightS Go.Lib.trimLeftS
  rw [List.length_reverse]
  have h1 := (List.dropWhile_sublist (blanks.contains ·) (l := (l.dropWhile (blanks.contains ·)).reverse)).length_le
  have h2 := (List.dropWhile_sublist (blanks.contains ·) (l := l)).length_le
  rw [List.length_reverse] at h1
  omega
end Wd
namespace Go.Proofs.YtjedhlgflocjoaaDoor
open Go.ChangeShapes Go.WideShapes Go.ChangeAt Go.RowKit Go.Sort
set_option linter.unusedVariables false
set_option linter.unusedSimpArgs false
/-- a readable slice apart from one that grows -/
theorem StrsAt.other {W W' : World} {v p p' : Value} {ls : List Wd.Str} (h : StrsAt W v ls) (hg : Grew W W' p p') (ha : Apart v p) : StrsAt W' v ls ∧ Apart v p' := by
  rcases h with ⟨rfl, rfl⟩ | ⟨g, cap, rfl, hc, hgl, hcell⟩
  · exact ⟨.inl ⟨rfl, rfl⟩, .inl rfl⟩
  · have hne : some g ≠ p.ownBlock := by
      rcases ha with ha | ha
      · simp [Value.ownBlock] at ha
      · exact ha
    have hblk := hg.by'.block g hgl hne
    refine ⟨.inr ⟨g, cap, rfl, hc, Nat.lt_of_lt_of_le hgl hg.by'.size, fun j hj => (World.cell?_of_block (a := ⟨g, j, none⟩) hblk).trans (hcell j hj)⟩, .inr fun e => ?_⟩
    rcases hg.blk g (by rw [← e]; rfl) with h3 | h3
    · exact hne h3.symm
    · omega
/-- a slice that came of v by calls that made memory alone is apart from p as v was -/
theorem apart_blk {W : World} {v v' p : Value} {ls : List Wd.Str} (ha : Apart v p) (hb : BlkOf W v v') (hp : StrsAt W p ls) : Apart v' p := by
  cases hk : v'.ownBlock with
  | none => exact .inl hk
  | some k =>
    refine .inr fun e => ?_
    rcases hb k hk with h | h
    · rcases ha with ha | ha
      · rw [ha] at h; cases h
      · exact ha (by rw [h, ← hk, e])
    · rcases hp with ⟨rfl, _⟩ | ⟨g, cap, rfl, _, hg, _⟩
      · rw [hk] at e; simp [Value.ownBlock] at e
      · rw [hk] at e; simp [Value.ownBlock] at e; omega
/-- what Parse of the reference holds -/
structure RP (w W : World) (a p b : Value) (q : Wd.PQ) (k : Nat) : Prop where
  need : StrsAt W a (Wd.uniq q.need)
  phr : SL w W p q.phr
  neg : StrsAt W b (Wd.uniq q.neg)
  ap : Apart a p
  bp : Apart b p
  ln : q.need.length ≤ k
  lp : q.phr.length ≤ k
  lg : q.neg.length ≤ k
theorem RP.keep {w W W' : World} {a p b : Value} {q : Wd.PQ} {k : Nat} (h : RP w W a p b q k) (hb : Below W.heap.size W W') : RP w W' a p b q k :=
  ⟨h.need.keep hb, h.phr.keep hb, h.neg.keep hb, h.ap, h.bp, h.ln, h.lp, h.lg⟩
theorem RP.stepNeed {w W W' : World} {a a' p b : Value} {q : Wd.PQ} {k k' : Nat} {xs : List Wd.Str} (h : RP w W a p b q k) (ha : StrsAt W' a' (Wd.uniq (q.need ++ xs))) (hb : Below W.heap.size W W') (hk : BlkOf W a a') (hl : k + xs.length ≤ k') :
    RP w W' a' p b { q with need := q.need ++ xs } k' :=
  ⟨ha, h.phr.keep hb, h.neg.keep hb, apart_blk h.ap hk h.phr.reads, h.bp, by have := h.ln; simp; omega, by have := h.lp; simp; omega, by have := h.lg; simp; omega⟩
theorem RP.stepNeg {w W W' : World} {a b' p b : Value} {q : Wd.PQ} {k k' : Nat} {xs : List Wd.Str} (h : RP w W a p b q k) (ha : StrsAt W' b' (Wd.uniq (q.neg ++ xs))) (hb : Below W.heap.size W W') (hk : BlkOf W b b') (hl : k + xs.length ≤ k') :
    RP w W' a p b' { q with neg := q.neg ++ xs } k' :=
  ⟨h.need.keep hb, h.phr.keep hb, ha, h.ap, apart_blk h.bp hk h.phr.reads, by have := h.ln; simp; omega, by have := h.lp; simp; omega, by have := h.lg; simp; omega⟩
theorem RP.stepPhr {w W W' : World} {a p p' b : Value} {q : Wd.PQ} {k k' : Nat} {x : Wd.Str} (h : RP w W a p b q k) (hg : Grew W W' p p') (hs : SL w W' p' (q.phr ++ [x])) (hl : k + 1 ≤ k') :
    RP w W' a p' b { q with phr := q.phr ++ [x] } k' :=
  ⟨(h.need.other hg h.ap).1, hs, (h.neg.other hg h.bp).1, (h.need.other hg h.ap).2, (h.neg.other hg h.bp).2, by have := h.ln; simp; omega, by have := h.lp; simp; omega, by have := h.lg; simp; omega⟩
theorem RP.up {w W : World} {a p b : Value} {q : Wd.PQ} {k k' : Nat} (h : RP w W a p b q k) (hl : k ≤ k') : RP w W a p b q k' := ⟨h.need, h.phr, h.neg, h.ap, h.bp, Nat.le_trans h.ln hl, Nat.le_trans h.lp hl, Nat.le_trans h.lg hl⟩
theorem RP.start (w : World) : RP w w (.slice none 0 0) (.slice none 0 0) (.slice none 0 0) Wd.PQ.none 0 :=
  ⟨StrsAt.nil w, SL.start w, StrsAt.nil w, .inl rfl, .inl rfl, Nat.le_refl _, Nat.le_refl _, Nat.le_refl _⟩
def ParseOut (q : Wd.PQ) (w : World) (e : Ending) (w' : World) : Prop := ∃ a p b, e = .returned (.tuple #[a, p, b]) ∧ StrsAt w' a (Wd.uniq q.need) ∧ StrsAt w' p q.phr ∧ StrsAt w' b (Wd.uniq q.neg) ∧ Below w.heap.size w w'
end Go.Proofs.YtjedhlgflocjoaaDoor
