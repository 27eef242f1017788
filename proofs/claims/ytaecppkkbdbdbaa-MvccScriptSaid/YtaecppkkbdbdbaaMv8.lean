/- Mvcc: what has been met in a range; Versions. -/
import Derived.Test.YtaecppkkbdbdbaaMv7
namespace Go.Proofs.Ytaecppkkbdbdbaa
open Go.ChangeShapes Go.WideShapes Go.ChangeAt Go.RowKit Go.Deep Go.ChangeMaps
set_option linter.unusedVariables false
set_option linter.unusedSimpArgs false
def seenN : List En → Array Nat → (En → Nat) → Nat
  | [], _, _ => 0
  | e :: E, s, f => (if s.contains e.born then f e else 0) + seenN E s f
theorem seenN_other (f : En → Nat) (s : Array Nat) (b : Nat) : ∀ (E : List En), b ∉ E.map (·.born) → seenN E (s.push b) f = seenN E s f
  | [], _ => rfl
  | x :: E, h => by
    have hx : (x.born == b) = false := by
      cases hc : x.born == b with
      | false => rfl
      | true => exact absurd (List.mem_cons.2 (.inl (beq_iff_eq.1 hc).symm)) h
    simp only [seenN, contains_push, hx, Bool.or_false, seenN_other f s b E (fun e => h (List.mem_cons.2 (.inr e)))]
theorem seenN_push (f : En → Nat) (s : Array Nat) (e : En) (hs : s.contains e.born = false) : ∀ (E : List En), (E.map (·.born)).Nodup → e ∈ E → seenN E (s.push e.born) f = seenN E s f + f e
  | x :: E, hn, he => by
    have hn' := List.nodup_cons.1 hn
    rcases List.mem_cons.1 he with rfl | he
    · simp only [seenN, contains_push, hs, beq_self_eq_true, Bool.or_true, if_true, Bool.false_eq_true, if_false, seenN_other f s _ E hn'.1]
      omega
    · have hne : (x.born == e.born) = false := by
        cases hc : x.born == e.born with
        | false => rfl
        | true => exact absurd (List.mem_map.2 ⟨e, he, (beq_iff_eq.1 hc).symm⟩) hn'.1
      simp only [seenN, contains_push, hne, Bool.or_false, seenN_push f s e hs E hn'.2 he]
      omega
theorem seenN_all (f : En → Nat) (s : Array Nat) : ∀ (E : List En), (∀ e ∈ E, s.contains e.born = true) → seenN E s f = (E.map f).sum
  | [], _ => rfl
  | x :: E, h => by
    simp only [seenN, h x List.mem_cons_self, if_true, List.map_cons, List.sum_cons, seenN_all f s E (fun e he => h e (List.mem_cons_of_mem _ he))]
theorem seenN_le (f : En → Nat) (s : Array Nat) : ∀ (E : List En), seenN E s f ≤ (E.map f).sum
  | [] => Nat.le_refl _
  | x :: E => by
    have := seenN_le f s E
    simp only [seenN, List.map_cons, List.sum_cons]
    split <;> omega
theorem seenN_nil (f : En → Nat) : ∀ (E : List En), seenN E #[] f = 0
  | [] => rfl
  | x :: E => by simp [seenN, seenN_nil f E]
/-- how many are left -/
def unseen (E : List En) (s : Array Nat) : Nat := E.length - seenN E s (fun _ => 1)
theorem unseen_push (E : List En) (s : Array Nat) (e : En) (hs : s.contains e.born = false) (hn : (E.map (·.born)).Nodup) (he : e ∈ E) : unseen E (s.push e.born) < unseen E s := by
  have h1 := seenN_push (fun _ => 1) s e hs E hn he
  have h2 := seenN_le (fun _ => 1) (s.push e.born) E
  have h3 : (E.map (fun _ => 1)).sum = E.length := by
    clear h1 h2 he hn
    induction E with
    | nil => rfl
    | cons a E ih => simp only [List.map_cons, List.sum_cons, ih, List.length_cons]; omega
  unfold unseen
  omega
theorem iterSeen_at {W : World} {r m since last : Nat} {seen : Array Nat} (h : IterAt W r m since seen last) : W.iterSeen r = seen := by
  unfold World.iterSeen
  rw [show W.heap[r]? = _ from h]
theorem iter_set {W : World} {r m since last m' since' last' : Nat} {seen seen' : Array Nat} (h : IterAt W r m since seen last) : IterAt (setBlock W r (.mapIter (some m') since' seen' last')) r m' since' seen' last' := setBlock_at h
theorem iter_drew {W W1 : World} {r m since last : Nat} {seen : Array Nat} (h : IterAt W r m since seen last) (hw : W1 = W ∨ W1 = W.drew) : IterAt W1 r m since seen last := by rcases hw with rfl | rfl <;> exact h
theorem kept_drew' {S : Nat → Prop} {W W1 W2 : World} (h : Kept S W W1) (hw : W2 = W1 ∨ W2 = W1.drew) : Kept S W W2 := by rcases hw with rfl | rfl; exact h; exact h.drew
def total (E : List En) : Nat := (E.map fun e => e.vs.length).sum
set_option maxRecDepth 100000 in
set_option maxHeartbeats 1600000 in
theorem versions_any (B S m clock : Nat) (E : List En) (W : World) (h : Sto B W S m E clock) (ht : total E ≤ 1000000) :
    Calls Try.prog 30 #[.pointer (some ⟨S, 0, none⟩)] W fun e W' => e = .returned (.int .i64 (total E)) ∧ Below W.heap.size W W' := by
  have a0 := h.c0
  have hrg := run_range_E h.map
  have HH := Lib.hid h
  have HT := Lib.hid ht
  clear h ht
  go_enter Try.func30, Try.ntmps30
  go_wp2_with fail
  obtain ⟨r, hr⟩ : ∃ r, r = W.heap.size := ⟨_, rfl⟩
  have hit : IterAt (W.alloc (.mapIter (some m) clock #[] clock)) r m clock #[] clock := by rw [hr]; exact heap_alloc_new W _
  have hk0 : Kept (fun j => j = r) W (W.alloc (.mapIter (some m) clock #[] clock)) := (Kept.refl _ W).alloc _
  have H0 := Lib.hid (And.intro hit hk0)
  have hrl := Nat.le_of_eq hr
  rw [← hr]
  have HR := Lib.hid hr
  clear hit hk0 hr a0 hrg
  generalize W.alloc (.mapIter (some m) clock #[] clock) = W1 at H0 ⊢
  go_loopw [3] (fun n wr => ∃ seen, IterAt wr r m clock seen clock ∧ Kept (fun j => j = r) W wr ∧ n = .int .i64 (seenN E seen (fun e => e.vs.length))) (fun _ wr => unseen E (wr.iterSeen r))
  case atStart => exact ⟨#[], H0.out.1, H0.out.2, by rw [seenN_nil]; rfl⟩
  case round =>
    clear H0
    obtain ⟨seen, hit, hk, rfl⟩ := hrel
    have hm : MapAt wr m E clock := HH.out.map.kept hk (fun e => by have := HH.out.map.lt; have := HR.out; omega)
    have hms := iterSeen_at hit
    rcases run_next_E hm hit HH.out.ok.lt (Nat.le_refl _) 0 with ⟨hall, hrun⟩ | ⟨x, hx, hsx, W2, hW2, hrun⟩
    · have HA := Lib.hid (And.intro hall hk)
      clear hall hk hm hms hit
      go_wp2_with fail
      go_ret
      exact ⟨by rw [seenN_all _ seen E HA.out.1]; rfl, HA.out.2.below (Nat.le_refl _) (fun j e => by have := HR.out; omega)⟩
    · obtain ⟨W3, hW3⟩ : ∃ W3, W3 = setBlock W2 r (.mapIter (some m) clock (seen.push x.born) clock) := ⟨_, rfl⟩
      rw [← hW3] at hrun
      have hit3 : IterAt W3 r m clock (seen.push x.born) clock := by rw [hW3]; exact iter_set (iter_drew hit hW2)
      have hk3 : Kept (fun j => j = r) W W3 := by rw [hW3]; exact setBlock_kept (kept_drew' hk hW2) r _ (.inl rfl)
      have hm3 : MapAt W3 m E clock := HH.out.map.kept hk3 (fun e => by have := HH.out.map.lt; have := HR.out; omega)
      have hent := run_entry_E hm3 hit3 hx HH.out.ok.borns
      obtain ⟨va, vc, hval⟩ := (HH.out.rows x hx).1.len
      rw [hval] at hrun hent
      have hsn := seenN_push (fun e => e.vs.length) seen x hsx E HH.out.ok.borns hx
      have hle := seenN_le (fun e => e.vs.length) (seen.push x.born) E
      have hT : (E.map fun e => e.vs.length).sum ≤ 1000000 := HT.out
      have hmeas := unseen_push E seen x hsx HH.out.ok.borns hx
      have hms3 := iterSeen_at hit3
      have hb : seenN E seen (fun e => e.vs.length) + x.vs.length ≤ 1000000 := by omega
      have hw : IntKind.i64.wrap ((seenN E seen (fun e => e.vs.length) : Int) + (x.vs.length : Int)) = ((seenN E seen (fun e => e.vs.length) + x.vs.length : Nat) : Int) := by rw [IntKind.wrap_i64]; omega
      have H3 := Lib.hid (And.intro hit3 hk3)
      have HM := Lib.hid (And.intro hmeas (And.intro hms hms3))
      have HSN := Lib.hid hsn
      clear hsn hle hT hmeas hms hms3 hm hm3 hit3 hk3 hW3 hW2 hk hit hval
      generalize seenN E seen (fun e => e.vs.length) = N at *
      go_wp2_with fail
      go_roundw
      case rel => exact ⟨_, H3.out.1, H3.out.2, by rw [HSN.out]; go_num⟩
      case measure => rw [HM.out.2.1, HM.out.2.2]; exact HM.out.1
end Go.Proofs.Ytaecppkkbdbdbaa
