/- Sessions, plain: what each call answers and leaves. -/
import Derived.Test.YtakccoiecmibcaaSort
import Derived.Test.YtakccoiecmibcaaRaw
import Derived.Test.YtakccoiecmibcaaWord
import Derived.Test.YtakccoiecmibcaaFind
namespace Go.Proofs.Ytakccoiecmibcaa
open Go.RowKit Go.Maps

abbrev Prf := Int × Int
/-- A session. -/
structure Sess where
  user : Str
  tenant : Str
  device : Str
  started : Int
  seen : Int
  until_ : Int
  proofs : List Prf
  clients : List Str
  ended : Bool
abbrev Sss := List (Str × Sess)
def addI (t d : Int) : Int := lim (lim t + lim d)
def untilX (idle abs : Int) (x : Sess) : Int := min (addI x.seen idle) (addI x.started abs)
/-- The error of a proof that is added. -/
def addE (p : Prf) : Int := if p.1 < 1 ∨ 4 < p.1 then 2 else if p.2 < 0 ∨ 1099511627776 < p.2 then 27 else 0
def hasF (f : Int) (q : Prf) : Bool := q.1 == f
def addL (l : List Prf) (p : Prf) : List Prf := delP (hasF p.1) l ++ [p]
def badP (p : Prf) : Bool := addE p != 0
/-- The first error of several. -/
def addsE : List Prf → Int
  | [] => 0
  | p :: r => if addE p = 0 then addsE r else addE p
def addsL (l : List Prf) : List Prf := l.foldl addL []
def devB (d : Str) : Bool := d.isEmpty || wordB d
def startC (U : Sss) (id user tenant device : Str) (l : List Prf) : Int :=
  if !(wordB id && wordB user && wordB tenant && devB device) then 5
  else if (alook U id).isSome then 7
  else if l.length = 0 then 21
  else if addsE l ≠ 0 then addsE l
  else if 256 ≤ U.length then 3
  else 0
def newX (idle abs : Int) (user tenant device : Str) (l : List Prf) (now : Int) : Sess :=
  { user := user, tenant := tenant, device := device, started := lim now, seen := lim now, until_ := min (addI (lim now) idle) (addI (lim now) abs), proofs := addsL l, clients := [], ended := false }
def startU (idle abs : Int) (U : Sss) (id user tenant device : Str) (l : List Prf) (now : Int) : Sss :=
  if startC U id user tenant device l = 0 then U ++ [(id, newX idle abs user tenant device l now)] else U
def findC (U : Sss) (id : Str) (now : Int) : Int := match alook U id with
  | none => 6
  | some x => if x.ended then 6 else if x.until_ ≤ lim now then 13 else 0
def updU (U : Sss) (id : Str) (f : Sess → Sess) : Sss := match alook U id with
  | none => U
  | some x => aput U id (f x)
def touchX (idle abs now : Int) (x : Sess) : Sess :=
  { x with seen := max x.seen (lim now), until_ := min (addI (max x.seen (lim now)) idle) (addI x.started abs) }
def touchU (idle abs : Int) (U : Sss) (id : Str) (now : Int) : Sss := if findC U id now = 0 then updU U id (touchX idle abs now) else U
def presC (U : Sss) (id : Str) (p : Prf) (now : Int) : Int := if findC U id now = 0 then addE p else findC U id now
def presX (p : Prf) (x : Sess) : Sess := { x with proofs := addL x.proofs p }
def presU (U : Sss) (id : Str) (p : Prf) (now : Int) : Sss := if presC U id p now = 0 then updU U id (presX p) else U
def clientsOf (U : Sss) (id : Str) : List Str := ((alook U id).map Sess.clients).getD []
def eqC (x : Str) (y : Str) : Bool := y == x
def joinC (U : Sss) (id c : Str) (now : Int) : Int :=
  if findC U id now = 0 then (if wordB c then (if (clientsOf U id).any (eqC c) then 0 else if 256 ≤ (clientsOf U id).length then 3 else 0) else 5) else findC U id now
def joinX (c : Str) (x : Sess) : Sess := if x.clients.any (eqC c) then x else { x with clients := x.clients ++ [c] }
def joinU (U : Sss) (id c : Str) (now : Int) : Sss := if joinC U id c now = 0 then updU U id (joinX c) else U
def endC (U : Sss) (id : Str) : Int := match alook U id with
  | none => 6
  | some x => if x.ended then 6 else 0
def endX (x : Sess) : Sess := { x with ended := true }
def endL (U : Sss) (id : Str) : List Str := if endC U id = 0 then clientsOf U id else []
def endU (U : Sss) (id : Str) : Sss := if endC U id = 0 then updU U id endX else U
def liveB (x : Sess) (t : Int) : Bool := !x.ended && decide (t < x.until_)
def ofL (U : Sss) (user : Str) (now : Int) : List Str := sortS ((U.filter fun p => liveB p.2 (lim now) && p.2.user == user).map (·.1))
def expB (x : Sess) (t : Int) : Bool := decide (x.until_ ≤ t)
def expL (U : Sss) (now : Int) : List Str := sortS ((U.filter fun p => expB p.2 (lim now) && !p.2.ended).map (·.1))
def expU (U : Sss) (now : Int) : Sss := U.filter fun p => !(expB p.2 (lim now))
def lenN (U : Sss) : Nat := (U.filter fun p => !p.2.ended).length

theorem addsE_none {l : List Prf} (h : ∀ p ∈ l, badP p = false) : addsE l = 0 := by
  induction l with
  | nil => rfl
  | cons a r ih =>
    have h1 := h a (by simp)
    unfold badP at h1
    simp at h1
    unfold addsE
    rw [if_pos h1]
    exact ih (fun p hp => h p (by simp [hp]))
theorem addsE_at {l : List Prf} {k : Nat} (h : NoneTo badP l k) (hk : k < l.length) (hp : badP l[k] = true) : addsE l = addE l[k] ∧ addE l[k] ≠ 0 := by
  have hp' : addE l[k] ≠ 0 := by unfold badP at hp; simpa using hp
  refine ⟨?_, hp'⟩
  induction l generalizing k with
  | nil => simp at hk
  | cons a r ih =>
    cases k with
    | zero =>
      simp only [List.getElem_cons_zero] at hp' ⊢
      unfold addsE
      rw [if_neg hp']
    | succ k =>
      have h0 := h 0 (by omega) (by simp)
      unfold badP at h0
      simp at h0
      unfold addsE
      rw [if_pos h0]
      simp only [List.getElem_cons_succ] at hp hp' ⊢
      exact ih (fun j hj hjl => by have := h (j + 1) (by omega) (by simp; omega); simpa using this) (by simpa using hk) hp hp'
theorem addsL_snoc (l : List Prf) (k : Nat) (h : k < l.length) : addsL (l.take (k + 1)) = addL (addsL (l.take k)) l[k] := by
  unfold addsL
  rw [List.take_succ_eq_append_getElem h, List.foldl_append]
  rfl
theorem delF_len (l : List Prf) (f : Int) : (delP (hasF f) l).length ≤ l.length := delP_le _ _
/-- Proofs have different factors from 1 to 4. -/
structure Prfs (l : List Prf) : Prop where
  ok : ∀ p ∈ l, addE p = 0
  few : l.length ≤ 4
  diff : l.Pairwise fun p q => p.1 ≠ q.1
theorem Prfs.nil : Prfs [] := ⟨by simp, by simp, List.Pairwise.nil⟩
theorem addE_rng {p : Prf} (h : addE p = 0) : 1 ≤ p.1 ∧ p.1 ≤ 4 ∧ 0 ≤ p.2 ∧ p.2 ≤ 1099511627776 := by
  unfold addE at h
  split at h
  · cases h
  · split at h
    · cases h
    · omega
theorem nodup_le {α : Type} [DecidableEq α] {l : List α} : ∀ {m : List α}, l.Nodup → (∀ x ∈ l, x ∈ m) → l.length ≤ m.length := by
  induction l with
  | nil => intro m _ _; simp
  | cons a r ih =>
    intro m hn hs
    obtain ⟨h1, h2⟩ := List.nodup_cons.1 hn
    have ha := hs a (by simp)
    have := ih (m := m.erase a) h2 (fun x hx => (List.mem_erase_of_ne (fun e => h1 (by rw [← e]; exact hx))).2 (hs x (by simp [hx])))
    rw [List.length_erase_of_mem ha] at this
    have := List.length_pos_of_mem ha
    simp only [List.length_cons]
    omega
theorem few4 {l : List Int} (h : l.Nodup) (hr : ∀ x ∈ l, 1 ≤ x ∧ x ≤ 4) : l.length ≤ 4 := by
  exact nodup_le (m := [1, 2, 3, 4]) h (fun x hx => by
    have := hr x hx
    have : x = 1 ∨ x = 2 ∨ x = 3 ∨ x = 4 := by omega
    rcases this with rfl | rfl | rfl | rfl <;> simp)
theorem Prfs.add {l : List Prf} (h : Prfs l) {p : Prf} (hp : addE p = 0) : Prfs (addL l p) := by
  have h1 : ∀ q ∈ addL l p, addE q = 0 := fun q hq => by
    unfold addL delP at hq
    rcases List.mem_append.1 hq with hq | hq
    · exact h.ok q (List.mem_filter.1 hq).1
    · simp at hq; rw [hq]; exact hp
  have h2 : (addL l p).Pairwise fun p q => p.1 ≠ q.1 := by
    unfold addL delP
    refine List.pairwise_append.2 ⟨List.Pairwise.filter _ h.diff, by simp, fun a ha b hb => ?_⟩
    simp at hb
    have := (List.mem_filter.1 ha).2
    unfold hasF at this
    rw [hb]
    simpa using this
  refine ⟨h1, ?_, h2⟩
  have := few4 (l := (addL l p).map (·.1)) (by unfold List.Nodup; rw [List.pairwise_map]; exact h2) (fun x hx => by
    obtain ⟨q, hq, rfl⟩ := List.mem_map.1 hx
    have := addE_rng (h1 q hq)
    omega)
  rwa [List.length_map] at this
theorem Prfs.adds {l : List Prf} (h : ∀ p ∈ l, addE p = 0) : Prfs (addsL l) := by
  have : ∀ k, k ≤ l.length → Prfs (addsL (l.take k)) := by
    intro k
    induction k with
    | zero => intro _; exact Prfs.nil
    | succ k ih =>
      intro hk
      rw [addsL_snoc l k (by omega)]
      exact (ih (by omega)).add (h _ (List.getElem_mem _))
  have := this l.length (Nat.le_refl _)
  rwa [List.take_length] at this
theorem addsE_zero {l : List Prf} (h : addsE l = 0) : ∀ p ∈ l, addE p = 0 := by
  induction l with
  | nil => simp
  | cons a r ih =>
    unfold addsE at h
    by_cases e : addE a = 0
    · rw [if_pos e] at h
      intro p hp
      rcases List.mem_cons.1 hp with rfl | hp
      · exact e
      · exact ih h p hp
    · rw [if_neg e] at h; exact absurd h e
theorem addL_ne (l : List Prf) (p : Prf) : addL l p ≠ [] := by unfold addL; simp
theorem addsL_ne {l : List Prf} (h : l.length ≠ 0) : addsL l ≠ [] := by
  obtain ⟨k, hk⟩ : ∃ k, l.length = k + 1 := ⟨l.length - 1, by omega⟩
  have := addsL_snoc l k (by omega)
  rw [← hk, List.take_length] at this
  rw [this]
  exact addL_ne _ _
/-- What is always so of a session. -/
structure Inv (idle abs : Int) (x : Sess) : Prop where
  prfs : Prfs x.proofs
  some_ : x.proofs ≠ []
  few : x.clients.length ≤ 256
  start : 0 ≤ x.started ∧ x.started ≤ x.seen ∧ x.seen ≤ 1099511627776
  till : x.until_ = untilX idle abs x
theorem lim_rng {t : Int} (h1 : 0 ≤ t) (h2 : t ≤ 1099511627776) : lim t = t := by unfold lim; omega
theorem Inv.new {idle abs : Int} (user tenant device : Str) {l : List Prf} (now : Int) (h : addsE l = 0) (hl : l.length ≠ 0) : Inv idle abs (newX idle abs user tenant device l now) :=
  ⟨Prfs.adds (addsE_zero h), addsL_ne hl, by simp [newX], by have := lim_bd now; simp only [newX]; omega, rfl⟩
theorem Inv.touch {idle abs : Int} {x : Sess} (h : Inv idle abs x) (now : Int) : Inv idle abs (touchX idle abs now x) :=
  ⟨h.prfs, h.some_, h.few, by have := lim_bd now; have := h.start; simp only [touchX]; omega, rfl⟩
theorem Inv.pres {idle abs : Int} {x : Sess} (h : Inv idle abs x) {p : Prf} (hp : addE p = 0) : Inv idle abs (presX p x) :=
  ⟨h.prfs.add hp, addL_ne _ _, h.few, h.start, h.till⟩
theorem Inv.join {idle abs : Int} {x : Sess} (h : Inv idle abs x) {c : Str} (hc : x.clients.any (eqC c) = true ∨ x.clients.length < 256) : Inv idle abs (joinX c x) := by
  unfold joinX
  split
  · exact h
  · rename_i hn
    refine ⟨h.prfs, h.some_, ?_, h.start, h.till⟩
    rcases hc with hc | hc
    · exact absurd hc hn
    · show (x.clients ++ [c]).length ≤ 256
      rw [List.length_append, List.length_singleton]; omega
theorem Inv.end_ {idle abs : Int} {x : Sess} (h : Inv idle abs x) : Inv idle abs (endX x) := ⟨h.prfs, h.some_, h.few, h.start, h.till⟩
theorem find_of {U : Sss} {id : Str} {x : Sess} (h : alook U id = some x) (now : Int) : findC U id now = 0 ↔ x.ended = false ∧ lim now < x.until_ := by
  unfold findC
  rw [h]
  show (if x.ended = true then (6 : Int) else if x.until_ ≤ lim now then 13 else 0) = 0 ↔ _
  cases x.ended
  · rw [if_neg (by simp)]
    by_cases e : x.until_ ≤ lim now
    · rw [if_pos e]; constructor
      · intro h; cases h
      · intro h; omega
    · rw [if_neg e]; simp; omega
  · rw [if_pos rfl]; simp
theorem find_some {U : Sss} {id : Str} {now : Int} (h : findC U id now = 0) : ∃ x, alook U id = some x ∧ x.ended = false ∧ lim now < x.until_ := by
  cases hl : alook U id with
  | none => unfold findC at h; rw [hl] at h; cases h
  | some x => exact ⟨x, rfl, (find_of hl now).1 h⟩
end Go.Proofs.Ytakccoiecmibcaa
