/- RiskApart: the plain part. -/
import Derived.Test.YtbcbffmbpoffpaaRemembers
namespace Go.Proofs.Ytbcbffmbpoffpaa
open Go.RowKit Go.Maps Go.ChangeShapes Go.WideShapes Go.ChangeAt

def userB (u : Str) (o : OpD) : Bool := o.u == u
def nextP (m : Option Prof) (o : OpD) : Option Prof := if o.kind = 3 then none else if wordB o.u && wordB o.d && wordB o.p then some ⟨movedL (m.getD prof0).dev o.d, movedL (m.getD prof0).pl o.p, lim o.now⟩ else m
def stepM (u : Str) (m : Option Prof) (o : OpD) : Option Prof := if userB u o = true then nextP m o else m
def stepZ (u : Str) (z : Int) (o : OpD) : Int := if userB u o = true then max z (lim o.now) else z
def lastZ (u : Str) (l : List OpD) : Int := l.foldl (stepZ u) 0
def mineL (u : Str) (l : List OpD) : List OpD := l.filter (userB u)
theorem look_step {U : Users} (h : U.length < 256) (u : Str) (o : OpD) : alook (stepO U o) u = stepM u (alook U u) o := by
  unfold stepO stepM nextP userB
  by_cases hk : o.kind = 3
  · rw [if_pos hk, if_pos hk, alook_del]
    simp
  · rw [if_neg hk, if_neg hk]
    unfold obsU
    rw [obsC_few h]
    by_cases hw : (wordB o.u && wordB o.d && wordB o.p) = true
    · rw [if_pos hw, if_pos hw, if_pos rfl, alook_put]
      by_cases hu : o.u = u
      · rw [if_pos hu, if_pos (by simp [hu])]
        unfold newP prof
        rw [hu]
      · rw [if_neg hu, if_neg (by simpa using hu)]
    · rw [if_neg hw, if_neg hw, if_neg (by decide)]
      simp
theorem look_fold (u : Str) (l : List OpD) : ∀ U, U.length + l.length < 256 → alook (foldO U l) u = l.foldl (stepM u) (alook U u) := by
  induction l with
  | nil => intro U _; rfl
  | cons o r ih =>
    intro U h
    simp only [List.length_cons] at h
    have h2 := stepO_len U o
    show alook (foldO (stepO U o) r) u = r.foldl (stepM u) (stepM u (alook U u) o)
    rw [ih _ (by omega), look_step (by omega)]
theorem fold_mine (u : Str) (l : List OpD) : ∀ m, (mineL u l).foldl (stepM u) m = l.foldl (stepM u) m := by
  induction l with
  | nil => intro m; rfl
  | cons o r ih =>
    intro m
    unfold mineL
    rw [List.filter_cons]
    split
    · rename_i ho
      exact ih _
    · rename_i ho
      show (mineL u r).foldl (stepM u) m = r.foldl (stepM u) (stepM u m o)
      rw [ih, show stepM u m o = m from if_neg ho]
theorem look_mine (u : Str) {l : List OpD} (h : l.length ≤ 30) : alook (foldO [] (mineL u l)) u = alook (foldO [] l) u := by
  have := List.length_filter_le (userB u) l
  rw [look_fold u l [] (by simp; omega), look_fold u (mineL u l) [] (by unfold mineL; simp; omega), fold_mine]
theorem last_ge (u : Str) (l : List OpD) : ∀ (m : Option Prof) (z : Int), (∀ p, m = some p → p.at_ ≤ z) → ∀ p, l.foldl (stepM u) m = some p → p.at_ ≤ l.foldl (stepZ u) z := by
  induction l with
  | nil => intro m z h; exact h
  | cons o r ih =>
    intro m z h
    refine ih _ _ ?_
    intro p hp
    unfold stepM at hp
    unfold stepZ
    split at hp
    · rename_i ho
      rw [if_pos ho]
      unfold nextP at hp
      split at hp
      · cases hp
      · split at hp
        · injection hp with hp
          rw [← hp]
          show lim o.now ≤ _
          omega
        · have := h p hp
          omega
    · rename_i ho
      rw [if_neg ho]
      exact h p hp
theorem last_snoc (u : Str) (l : List OpD) (k : Nat) (h : k < l.length) : lastZ u (l.take (k + 1)) = stepZ u (lastZ u (l.take k)) l[k] := by
  unfold lastZ
  rw [List.take_succ_eq_append_getElem h, List.foldl_append]
  rfl
theorem mine_snoc (u : Str) (l : List OpD) (k : Nat) (h : k < l.length) : mineL u (l.take (k + 1)) = if userB u l[k] then mineL u (l.take k) ++ [l[k]] else mineL u (l.take k) := by
  unfold mineL
  rw [List.take_succ_eq_append_getElem h, List.filter_append]
  cases hc : userB u l[k] <;> simp [hc]
theorem foldO_app (U : Users) (l : List OpD) (x : OpD) : foldO U (l ++ [x]) = stepO (foldO U l) x := by
  unfold foldO
  rw [List.foldl_append]; rfl
theorem last_bd (u : Str) (l : List OpD) : ∀ z, 0 ≤ z ∧ z ≤ 1099511627776 → 0 ≤ l.foldl (stepZ u) z ∧ l.foldl (stepZ u) z ≤ 1099511627776 := by
  induction l with
  | nil => intro z h; exact h
  | cons o r ih =>
    intro z h
    refine ih _ ?_
    have := lim_bd o.now
    unfold stepZ
    split <;> omega
theorem sigs_same {U V : Users} {u : Str} (h : alook U u = alook V u) (d p : Str) (now : Int) : sigsL U u d p now = sigsL V u d p now := by
  unfold sigsL travB prof
  rw [h]
theorem known_same {U V : Users} {u : Str} (h : alook U u = alook V u) (d : Str) : knownB U u d = knownB V u d := by
  unfold knownB prof
  rw [h]
theorem sigs_drop (U : Users) (u d p : Str) (now : Int) : sigsL (adel U u) u d p now = sigsL [] u d p now :=
  sigs_same (by rw [alook_del, if_pos rfl]; rfl) d p now
theorem still_ok (u : Str) {l : List OpD} (hl : l.length ≤ 30) (p : Str) (h : lastZ u l ≤ 549755813888) : travB (foldO [] l) u p (add (lastZ u l) 3600) = false := by
  have hb := last_bd u l 0 (by omega)
  have hf := look_fold u l [] (by simp; omega)
  have hg := last_ge u l none 0 (fun p hp => by cases hp)
  unfold travB prof
  cases hm : alook (foldO [] l) u with
  | none => rfl
  | some q =>
    have h1 := hg q (by rw [← hm, hf]; rfl)
    unfold lastZ at h
    have : ¬ lim (add (lastZ u l) 3600) < q.at_ + 3600 := by
      unfold lastZ add lim
      omega
    simp [this]
theorem sigs_len (U : Users) (u d p : Str) (now : Int) : (sigsL U u d p now).length = 4 := rfl
theorem sigs_two (U : Users) (u d p : Str) (now : Int) (h : 2 < (sigsL U u d p now).length) : (sigsL U u d p now)[2].2 = bitZ (travB U u p now) := rfl
theorem one_at {w : World} {b off : Nat} {l : List OpD} (h : OpsAt w (some ⟨b, off, none⟩) l) {k : Nat} (hk : k < l.length) : OpsAt w (some ⟨b, off + k * 5, none⟩) [l[k]] := by
  obtain ⟨b', off', e, hb, hc⟩ := h.at hk
  injection e with e; injection e with e1 e2 _
  subst e1; subst e2
  refine ⟨.inr ⟨b, off + k * 5, rfl, hb, fun i hi => ?_⟩, by simp [maxLen]⟩
  have : i = 0 := by simpa using hi
  subst this
  intro j v hv
  exact hc j v hv
theorem ops_open2 {H : Type} {enc : TypeId × Value → H} {w : World} {a : Option Addr} {len cap : Nat} {d : DataW H} {p : List MemPlace}
    (h : DataW.Trod enc Try.prog w 0 (fun _ => true) true 28 (.slice a len cap) d p) : ∃ l : List OpD, l.length = len ∧ (OpsAt w a l ∧ l.length ≤ cap ∧ cap ≤ maxLen) := by
  obtain ⟨h1, h2, h3⟩ := slice_open Try.underlying28 (sz := 5) (by kernel_rfl) (by omega) h
  obtain ⟨l, rfl, hl⟩ := ops_open h
  exact ⟨l, rfl, hl, by omega, h2⟩
theorem ProfsAt.nostr {w : World} {pb mb : Nat} {U : Users} (h : ProfsAt w pb mb U) : NoStr w [mb] := by
  obtain ⟨L, hm, _⟩ := h.map
  exact nostr_map hm
end Go.Proofs.Ytbcbffmbpoffpaa
