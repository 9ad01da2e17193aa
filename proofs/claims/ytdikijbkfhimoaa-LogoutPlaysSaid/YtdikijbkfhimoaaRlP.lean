/- The reference's record and the program's, plainly. -/
import Derived.Test.YtdikijbkfhimoaaRl
namespace Go.Proofs.Ytdikijbkfhimoaa
open Go.RowKit Go.Maps

def noteR (r : RN) : Str × Note := (r.c, (r.state, r.failed))
/-- The notes of a session: those of the program, by client. -/
structure RelN (x : Ses) (l : List RN) : Prop where
  perm : (l.map noteR).Perm x.2
  beg : ∀ r ∈ l, r.begun = x.1
  srt : l.Pairwise fun r s => r.c < s.c
structure Rel (U : Log) (Y : List RQ) : Prop where
  perm : (Y.map RQ.id).Perm (U.map Prod.fst)
  srt : Y.Pairwise fun y z => y.id < z.id
  each : ∀ y ∈ Y, ∃ x, alook U y.id = some x ∧ RelN x y.l
def eqR (s : Str) (y : RQ) : Bool := y.id == s
def eqN (c : Str) (r : RN) : Bool := r.c == c
theorem Rel.nil : Rel [] [] := ⟨List.Perm.refl _, List.Pairwise.nil, by simp⟩
theorem Rel.len {U : Log} {Y : List RQ} (h : Rel U Y) : Y.length = U.length := by simpa using h.perm.length_eq
theorem RelN.len {x : Ses} {l : List RN} (h : RelN x l) : l.length = x.2.length := by simpa using h.perm.length_eq
theorem Rel.look {U : Log} {Y : List RQ} (h : Rel U Y) (s : Str) : (idx (eqR s) Y = -1 ∧ alook U s = none) ∨ ∃ i, ∃ hi : i < Y.length, idx (eqR s) Y = i ∧ Y[i].id = s ∧ ∃ x, alook U s = some x ∧ RelN x Y[i].l := by
  rcases idx_split (p := eqR s) (l := Y) with ⟨e, hn⟩ | ⟨i, hi, e, hp, _⟩
  · left
    refine ⟨e, alook_none.2 (fun p hp hk => ?_)⟩
    have hm : p.1 ∈ Y.map RQ.id := h.perm.mem_iff.2 (List.mem_map.2 ⟨p, hp, rfl⟩)
    obtain ⟨y, hy, ey⟩ := List.mem_map.1 hm
    have := hn y hy
    unfold eqR at this
    rw [ey, hk] at this
    simp at this
  · right
    have hk : Y[i].id = s := by unfold eqR at hp; simpa using hp
    obtain ⟨x, hx, hr⟩ := h.each _ (List.getElem_mem hi)
    exact ⟨i, hi, e, hk, x, by rw [← hk]; exact hx, hr⟩
theorem RelN.look {x : Ses} {l : List RN} (h : RelN x l) (hu : AUniq x.2) (c : Str) : ((∀ r ∈ l, eqN c r = false) ∧ alook x.2 c = none) ∨ ∃ k, ∃ hk : k < l.length, l[k].c = c ∧ NoneTo (eqN c) l k ∧ alook x.2 c = some (l[k].state, l[k].failed) := by
  rcases idx_split (p := eqN c) (l := l) with ⟨e, hn⟩ | ⟨i, hi, e, hp, hn⟩
  · left
    refine ⟨hn, alook_none.2 (fun p hp hk => ?_)⟩
    obtain ⟨y, hy, ey⟩ := List.mem_map.1 (h.perm.mem_iff.2 hp)
    have := hn y hy
    unfold eqN at this
    rw [← ey] at hk
    simp [noteR] at hk
    rw [hk] at this
    simp at this
  · right
    have hk : l[i].c = c := by unfold eqN at hp; simpa using hp
    refine ⟨i, hi, hk, hn, alook_of_mem hu (h.perm.mem_iff.1 (List.mem_map.2 ⟨l[i], List.getElem_mem hi, ?_⟩))⟩
    unfold noteR
    rw [hk]
/-! ### insertion -/
theorem str_lt_irrefl (a : Str) : ¬ a < a := List.lt_irrefl a
theorem str_lt_trans {a b c : Str} (h : a < b) (k : b < c) : a < c := List.lt_trans h k
theorem str_lt_of {a b : Str} (h : ¬ a < b) (hn : a ≠ b) : b < a := by
  rcases pairLt_tri (a, []) (b, []) with h1 | h1 | h1
  · rcases h1 with h1 | ⟨h1, _⟩
    · exact absurd h1 h
    · exact absurd h1 hn
  · injection h1 with h1; exact absurd h1 hn
  · rcases h1 with h1 | ⟨h1, _⟩
    · exact h1
    · exact absurd h1.symm hn
section
variable {α : Type} {f : α → Str} {l : List α} {x : α} {k : Nat}
/-- So far all are before x. -/
def LtTo (f : α → Str) (x : Str) (l : List α) (k : Nat) : Prop := ∀ j (hj : j < l.length), j < k → f l[j] < x
theorem LtTo.zero (f : α → Str) (x : Str) (l : List α) : LtTo f x l 0 := fun j _ h => by omega
theorem LtTo.next {x : Str} (h : LtTo f x l k) (hk : k < l.length) (hl : f l[k] < x) : LtTo f x l (k + 1) := by
  intro j hj hjk
  by_cases e : j = k
  · subst e; exact hl
  · exact h j hj (by omega)
def insK (l : List α) (x : α) (k : Nat) : List α := l.take k ++ [x] ++ l.drop k
theorem insK_perm (l : List α) (x : α) (k : Nat) : (insK l x k).Perm (l ++ [x]) := by
  unfold insK
  rw [List.append_assoc]
  conv => rhs; rw [← List.take_append_drop k l, List.append_assoc]
  exact (List.perm_append_comm (l₁ := [x])).append_left _
theorem insK_len (l : List α) (x : α) (k : Nat) : (insK l x k).length = l.length + 1 := by rw [(insK_perm l x k).length_eq]; simp
theorem insK_mem {l : List α} {x y : α} {k : Nat} : y ∈ insK l x k ↔ y ∈ l ∨ y = x := by rw [(insK_perm l x k).mem_iff]; simp
theorem insK_srt (hs : l.Pairwise fun y z => f y < f z) (h1 : LtTo f (f x) l k) (h2 : ∀ hk : k < l.length, ¬ f l[k] < f x) (hn : ∀ y ∈ l, f y ≠ f x) : (insK l x k).Pairwise fun y z => f y < f z := by
  have ht : ∀ y ∈ l.take k, f y < f x := fun y hy => by
    obtain ⟨j, hj, rfl⟩ := List.getElem_of_mem hy
    rw [List.length_take] at hj
    rw [List.getElem_take]
    exact h1 j (by omega) (by omega)
  have hd : ∀ y ∈ l.drop k, f x < f y := fun y hy => by
    obtain ⟨j, hj, rfl⟩ := List.getElem_of_mem hy
    rw [List.length_drop] at hj
    rw [List.getElem_drop]
    have hk : k < l.length := by omega
    have h0 : f x < f l[k] := str_lt_of (h2 hk) (hn _ (List.getElem_mem hk))
    by_cases e : j = 0
    · subst e; exact h0
    · exact str_lt_trans h0 (List.pairwise_iff_getElem.1 hs k (k + j) hk (by omega) (by omega))
  have hsrt := hs
  rw [← List.take_append_drop k l] at hsrt
  obtain ⟨p1, p2, p3⟩ := List.pairwise_append.1 hsrt
  refine List.pairwise_append.2 ⟨List.pairwise_append.2 ⟨p1, by simp, fun y hy z hz => ?_⟩, p2, fun y hy z hz => ?_⟩
  · simp at hz; rw [hz]; exact ht y hy
  · rcases List.mem_append.1 hy with hy | hy
    · exact p3 y hy z hz
    · simp at hy; rw [hy]; exact hd z hz
end
/-- A client has been put in. -/
theorem RelN.ins {b : Int} {N : Notes} {l : List RN} (h : RelN (b, N) l) {c : Str} (hn : ∀ p ∈ N, p.1 ≠ c) {k : Nat} (h1 : LtTo RN.c c l k) (h2 : ∀ hk : k < l.length, ¬ l[k].c < c) : RelN (b, N ++ [(c, ((0 : Int), 0))]) (insK l ⟨c, 0, b, 0⟩ k) := by
  refine ⟨((insK_perm l _ k).map noteR).trans ?_, fun r hr => ?_, insK_srt (f := RN.c) (x := ⟨c, 0, b, 0⟩) h.srt h1 h2 (fun y hy e => ?_)⟩
  · rw [List.map_append]
    exact h.perm.append_right _
  · rcases insK_mem.1 hr with hr | hr
    · exact h.beg r hr
    · rw [hr]
  · exact hn (noteR y) (h.perm.mem_iff.1 (List.mem_map.2 ⟨y, hy, rfl⟩)) e
theorem RelN.start (b : Int) : RelN (b, []) [] := ⟨List.Perm.refl _, by simp, List.Pairwise.nil⟩
theorem freshN_snoc (cl : List Str) {i : Nat} (hi : i < cl.length) : freshN (cl.take (i + 1)) = freshN (cl.take i) ++ [(cl[i], ((0 : Int), 0))] := by
  unfold freshN
  rw [List.take_succ_eq_append_getElem hi, List.map_append]
  rfl
theorem RelN.fresh {b : Int} {cl : List Str} {i : Nat} {l : List RN} (h : RelN (b, freshN (cl.take i)) l) (hi : i < cl.length) (hn : ∀ j (hj : j < cl.length), j < i → cl[j] ≠ cl[i]) {k : Nat} (h1 : LtTo RN.c cl[i] l k) (h2 : ∀ hk : k < l.length, ¬ l[k].c < cl[i]) : RelN (b, freshN (cl.take (i + 1))) (insK l ⟨cl[i], 0, b, 0⟩ k) := by
  rw [freshN_snoc cl hi]
  refine h.ins (fun p hp => ?_) h1 h2
  unfold freshN at hp
  rw [List.mem_map] at hp
  obtain ⟨c, hc, rfl⟩ := hp
  obtain ⟨j, hj, rfl⟩ := List.getElem_of_mem hc
  rw [List.length_take] at hj
  rw [List.getElem_take]
  exact hn j (by omega) (by omega)
/-- A session has been put in. -/
theorem Rel.ins {U : Log} {Y : List RQ} (h : Rel U Y) {s : Str} {x : Ses} {y : RQ} (hy : y.id = s) (hr : RelN x y.l) (hn : alook U s = none) {k : Nat} (h1 : LtTo RQ.id s Y k) (h2 : ∀ hk : k < Y.length, ¬ Y[k].id < s) : Rel (U ++ [(s, x)]) (insK Y y k) := by
  subst hy
  have hne : ∀ z ∈ Y, z.id ≠ y.id := fun z hz e => by
    obtain ⟨v, hv, _⟩ := h.each z hz
    rw [e, hn] at hv
    cases hv
  refine ⟨((insK_perm Y y k).map RQ.id).trans ?_, insK_srt (f := RQ.id) h.srt h1 h2 hne, fun z hz => ?_⟩
  · rw [List.map_append, List.map_append]
    exact h.perm.append_right _
  · rcases insK_mem.1 hz with hz | rfl
    · obtain ⟨v, hv, hr'⟩ := h.each z hz
      exact ⟨v, by rw [alook_app, hv]; rfl, hr'⟩
    · exact ⟨x, by rw [alook_app, hn, alook_cons, if_pos rfl]; rfl, hr⟩
/-! ### a note is written -/
theorem aput_perm {N : Notes} {l : List RN} (hp : (l.map noteR).Perm N) (hs : l.Pairwise fun r s => r.c < s.c) {k : Nat} (hk : k < l.length) {r : RN} (hr : r.c = l[k].c) : ((l.set k r).map noteR).Perm (aput N l[k].c (r.state, r.failed)) := by
  have hin : alook N l[k].c ≠ none := fun e => alook_none.1 e (noteR l[k]) (hp.mem_iff.1 (List.mem_map.2 ⟨_, List.getElem_mem hk, rfl⟩)) rfl
  unfold aput
  rw [if_pos (by cases h : alook N l[k].c with | none => exact absurd h hin | some v => rfl)]
  refine List.Perm.trans ?_ (hp.map _)
  rw [List.map_map]
  refine List.Perm.of_eq ?_
  apply List.ext_getElem (by simp)
  intro j hj1 hj2
  rw [List.getElem_map, List.getElem_map, List.getElem_set]
  simp only [List.length_map, List.length_set] at hj1
  by_cases e : k = j
  · subst e
    rw [if_pos rfl]
    simp [noteR, hr]
  · rw [if_neg e]
    have hne : l[j].c ≠ l[k].c := fun e2 => by
      rcases Nat.lt_or_ge j k with h1 | h1
      · have := List.pairwise_iff_getElem.1 hs j k hj1 hk h1
        rw [e2] at this; exact str_lt_irrefl _ this
      · have := List.pairwise_iff_getElem.1 hs k j hk hj1 (by omega)
        rw [e2] at this; exact str_lt_irrefl _ this
    simp [noteR, hne]
theorem RelN.set {x : Ses} {l : List RN} (h : RelN x l) {k : Nat} (hk : k < l.length) {r : RN} (hr : r.c = l[k].c) (hb : r.begun = l[k].begun) : RelN (x.1, aput x.2 l[k].c (r.state, r.failed)) (l.set k r) := by
  refine ⟨aput_perm h.perm h.srt hk hr, fun z hz => ?_, ?_⟩
  · rcases List.mem_or_eq_of_mem_set hz with hz | rfl
    · exact h.beg z hz
    · rw [hb]; exact h.beg _ (List.getElem_mem hk)
  · rw [List.pairwise_iff_getElem]
    intro i j hi hj hij
    rw [List.length_set] at hi hj
    have := List.pairwise_iff_getElem.1 h.srt i j hi hj hij
    rw [List.getElem_set, List.getElem_set]
    by_cases e1 : k = i
    · subst e1
      rw [if_pos rfl, if_neg (by omega), hr]; exact this
    · rw [if_neg e1]
      by_cases e2 : k = j
      · subst e2; rw [if_pos rfl, hr]; exact this
      · rw [if_neg e2]; exact this
theorem Rel.set {U : Log} {Y : List RQ} (h : Rel U Y) {i : Nat} (hi : i < Y.length) {y : RQ} (hy : y.id = Y[i].id) {x : Ses} {v : Ses} (hv : alook U Y[i].id = some v) (hr : RelN x y.l) : Rel (aput U Y[i].id x) (Y.set i y) := by
  refine ⟨?_, ?_, fun z hz => ?_⟩
  · have e1 : (Y.set i y).map RQ.id = Y.map RQ.id := by
      apply List.ext_getElem (by simp)
      intro j hj1 hj2
      rw [List.getElem_map, List.getElem_map, List.getElem_set]
      by_cases e : i = j
      · subst e; rw [if_pos rfl]; exact hy
      · rw [if_neg e]
    have e2 : (aput U Y[i].id x).map Prod.fst = U.map Prod.fst := by
      unfold aput
      rw [hv]
      simp only [Option.isSome_some, if_true, List.map_map]
      apply List.map_congr_left
      intro p _
      by_cases e : p.1 = Y[i].id
      · simp [e]
      · simp [e]
    rw [e1, e2]
    exact h.perm
  · rw [List.pairwise_iff_getElem]
    intro a b ha hb hab
    rw [List.length_set] at ha hb
    have := List.pairwise_iff_getElem.1 h.srt a b ha hb hab
    rw [List.getElem_set, List.getElem_set]
    by_cases e1 : i = a
    · subst e1
      rw [if_pos rfl, if_neg (by omega), hy]; exact this
    · rw [if_neg e1]
      by_cases e2 : i = b
      · subst e2; rw [if_pos rfl, hy]; exact this
      · rw [if_neg e2]; exact this
  · obtain ⟨j, hj, rfl⟩ := List.getElem_of_mem hz
    rw [List.length_set] at hj
    rw [List.getElem_set]
    by_cases e : i = j
    · subst e
      rw [if_pos rfl]
      exact ⟨x, by rw [hy, alook_put, if_pos rfl], hr⟩
    · rw [if_neg e]
      obtain ⟨v', hv', hr'⟩ := h.each _ (List.getElem_mem hj)
      refine ⟨v', ?_, hr'⟩
      rw [alook_put, if_neg (fun e2 => ?_)]
      · exact hv'
      · rcases Nat.lt_or_ge i j with h1 | h1
        · have := List.pairwise_iff_getElem.1 h.srt i j hi hj h1
          rw [e2] at this; exact str_lt_irrefl _ this
        · have := List.pairwise_iff_getElem.1 h.srt j i hj hi (by omega)
          rw [e2] at this; exact str_lt_irrefl _ this
end Go.Proofs.Ytdikijbkfhimoaa
