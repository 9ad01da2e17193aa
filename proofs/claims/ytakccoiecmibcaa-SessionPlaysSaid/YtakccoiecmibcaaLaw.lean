/- Scripts of calls on sessions, plain; what the statements ask of them. -/
import Derived.Test.YtakccoiecmibcaaSess
namespace Go.Proofs.Ytakccoiecmibcaa
open Go.RowKit Go.Maps

/-- A call. -/
structure OpD where
  call : Int
  now : Int
  id : Str
  user : Str
  tenant : Str
  device : Str
  client : Str
  proofs : List Prf
  pa : Option Addr
  pc : Nat
def firstP (x : OpD) : Prf := match x.proofs with
  | [] => (0, 0)
  | p :: _ => p
def doE (U : Sss) (x : OpD) : Int :=
  if x.call = 0 then startC U x.id x.user x.tenant x.device x.proofs
  else if x.call = 1 then findC U x.id x.now
  else if x.call = 2 then presC U x.id (firstP x) x.now
  else if x.call = 3 then joinC U x.id x.client x.now
  else if x.call = 4 then endC U x.id
  else if x.call = 5 then 0
  else findC U x.id x.now
def doL (U : Sss) (x : OpD) : List Str :=
  if x.call = 4 then endL U x.id else if x.call = 5 then expL U x.now else []
def doU (idle abs : Int) (U : Sss) (x : OpD) : Sss :=
  if x.call = 0 then startU idle abs U x.id x.user x.tenant x.device x.proofs x.now
  else if x.call = 1 then touchU idle abs U x.id x.now
  else if x.call = 2 then presU U x.id (firstP x) x.now
  else if x.call = 3 then joinU U x.id x.client x.now
  else if x.call = 4 then endU U x.id
  else if x.call = 5 then expU U x.now
  else U
/-- What is always so of the sessions. -/
structure Good (idle abs : Int) (U : Sss) : Prop where
  uniq : AUniq U
  inv : ∀ p ∈ U, Inv idle abs p.2
  word : ∀ p ∈ U, wordB p.1 = true
theorem Good.nil (idle abs : Int) : Good idle abs [] := ⟨List.Pairwise.nil, by simp, by simp⟩
theorem Good.look {idle abs : Int} {U : Sss} (h : Good idle abs U) {id : Str} {x : Sess} (hx : alook U id = some x) : Inv idle abs x := h.inv _ (alook_some hx)
theorem aput_mem2 {V : Type} {X : List (Str × V)} {k : Str} {x : V} {p : Str × V} (h : p ∈ aput X k x) : p = (k, x) ∨ (p ∈ X ∧ p.1 ≠ k) := by
  unfold aput at h
  split at h
  · rw [List.mem_map] at h
    obtain ⟨q, hq, rfl⟩ := h
    by_cases e : q.1 = k
    · rw [if_pos e]; exact .inl rfl
    · rw [if_neg e]; exact .inr ⟨hq, e⟩
  · rename_i hn
    have hl : alook X k = none := by simpa using hn
    rcases List.mem_append.1 h with h | h
    · exact .inr ⟨h, alook_none.1 hl p h⟩
    · exact .inl (List.mem_singleton.1 h)
theorem Good.upd {idle abs : Int} {U : Sss} (h : Good idle abs U) (id : Str) (f : Sess → Sess) (hf : ∀ x, alook U id = some x → Inv idle abs (f x)) : Good idle abs (updU U id f) := by
  unfold updU
  cases hl : alook U id with
  | none => exact h
  | some x =>
    refine ⟨aput_uniq h.uniq _ _, fun p hp => ?_, fun p hp => ?_⟩
    · rcases aput_mem2 hp with rfl | ⟨hp, _⟩
      · exact hf x hl
      · exact h.inv p hp
    · rcases aput_mem2 hp with rfl | ⟨hp, _⟩
      · exact h.word (id, x) (alook_some hl)
      · exact h.word p hp
theorem join_room {U : Sss} {id c : Str} {now : Int} (h : joinC U id c now = 0) {x : Sess} (hx : alook U id = some x) : x.clients.any (eqC c) = true ∨ x.clients.length < 256 := by
  unfold joinC at h
  have hc : clientsOf U id = x.clients := by unfold clientsOf; rw [hx]; rfl
  rw [hc] at h
  split at h
  · split at h
    · split at h
      · exact .inl ‹_›
      · split at h
        · cases h
        · right; omega
    · cases h
  · exact absurd h ‹_›
theorem start_facts {U : Sss} {id user tenant device : Str} {l : List Prf} (h : startC U id user tenant device l = 0) : wordB id = true ∧ alook U id = none ∧ l.length ≠ 0 ∧ addsE l = 0 ∧ U.length < 256 := by
  unfold startC at h
  split at h
  · cases h
  · rename_i h1
    split at h
    · cases h
    · rename_i h2
      split at h
      · cases h
      · rename_i h3
        split at h
        · rename_i h4; exact absurd h h4
        · rename_i h4
          split at h
          · cases h
          · rename_i h5
            refine ⟨?_, by simpa using h2, h3, by simpa using h4, by omega⟩
            simp at h1
            exact h1.1.1.1
theorem Good.do_ {idle abs : Int} {U : Sss} (h : Good idle abs U) (x : OpD) : Good idle abs (doU idle abs U x) := by
  unfold doU
  split
  · unfold startU
    split
    · rename_i hc
      obtain ⟨h1, h2, h3, h4, _⟩ := start_facts hc
      refine ⟨?_, fun p hp => ?_, fun p hp => ?_⟩
      · refine List.pairwise_append.2 ⟨h.uniq, by simp, fun a ha b hb => ?_⟩
        simp at hb
        rw [hb]
        exact alook_none.1 h2 a ha
      · rcases List.mem_append.1 hp with hp | hp
        · exact h.inv p hp
        · simp at hp; rw [hp]; exact Inv.new _ _ _ _ h4 h3
      · rcases List.mem_append.1 hp with hp | hp
        · exact h.word p hp
        · simp at hp; rw [hp]; exact h1
    · exact h
  · split
    · unfold touchU
      split
      · exact h.upd _ _ (fun y hy => (h.look hy).touch _)
      · exact h
    · split
      · unfold presU
        split
        · rename_i hc
          have he : addE (firstP x) = 0 := by
            unfold presC at hc
            split at hc
            · exact hc
            · exact absurd hc ‹_›
          exact h.upd _ _ (fun y hy => (h.look hy).pres he)
        · exact h
      · split
        · unfold joinU
          split
          · rename_i hc
            exact h.upd _ _ (fun y hy => (h.look hy).join (join_room hc hy))
          · exact h
        · split
          · unfold endU
            split
            · exact h.upd _ _ (fun y hy => (h.look hy).end_)
            · exact h
          · split
            · unfold expU
              exact ⟨List.Pairwise.filter _ h.uniq, fun p hp => h.inv p (List.mem_filter.1 hp).1, fun p hp => h.word p (List.mem_filter.1 hp).1⟩
            · exact h
theorem upd_len (U : Sss) (id : Str) (f : Sess → Sess) : (updU U id f).length = U.length := by
  unfold updU
  cases h : alook U id with
  | none => rfl
  | some x => show (aput U id (f x)).length = _; rw [aput_len, h]; rfl
theorem do_len (idle abs : Int) (U : Sss) (x : OpD) : (doU idle abs U x).length ≤ U.length + 1 := by
  unfold doU
  split
  · unfold startU; split <;> simp
  · split
    · unfold touchU; split <;> simp [upd_len]
    · split
      · unfold presU; split <;> simp [upd_len]
      · split
        · unfold joinU; split <;> simp [upd_len]
        · split
          · unfold endU; split <;> simp [upd_len]
          · split
            · unfold expU; exact Nat.le_trans (List.length_filter_le _ _) (by omega)
            · omega
def runU (idle abs : Int) (l : List OpD) : Sss := l.foldl (doU idle abs) []
theorem runU_snoc (idle abs : Int) (l : List OpD) (k : Nat) (h : k < l.length) : runU idle abs (l.take (k + 1)) = doU idle abs (runU idle abs (l.take k)) l[k] := by
  unfold runU
  rw [List.take_succ_eq_append_getElem h, List.foldl_append]
  rfl
theorem run_good (idle abs : Int) (l : List OpD) : Good idle abs (runU idle abs l) ∧ (runU idle abs l).length ≤ l.length := by
  have : ∀ k, k ≤ l.length → Good idle abs (runU idle abs (l.take k)) ∧ (runU idle abs (l.take k)).length ≤ k := by
    intro k
    induction k with
    | zero => intro _; exact ⟨Good.nil _ _, by simp [runU]⟩
    | succ k ih =>
      intro hk
      obtain ⟨h1, h2⟩ := ih (by omega)
      rw [runU_snoc idle abs l k (by omega)]
      exact ⟨h1.do_ _, by have := do_len idle abs (runU idle abs (l.take k)) l[k]; omega⟩
  have := this l.length (Nat.le_refl _)
  rwa [List.take_length] at this

/-! ### Bounded -/
theorem bounded_ok {idle abs : Int} {U : Sss} (h : Good idle abs U) {id : Str} {now : Int} (h0 : 0 ≤ now) (h1 : now ≤ 1099511627776) (hf : findC U id now = 0) : ∃ x, alook U id = some x ∧ now - x.seen < lim idle ∧ now - x.started < lim abs ∧ now < x.until_ ∧ x.started ≤ x.seen ∧ x.proofs ≠ [] ∧ 0 ≤ x.started ∧ x.seen ≤ 1099511627776 := by
  obtain ⟨x, hx, _, hu⟩ := find_some hf
  have hi := h.look hx
  rw [lim_rng h0 h1] at hu
  have ht := hi.till
  have hs := hi.start
  refine ⟨x, hx, ?_, ?_, hu, hs.2.1, hi.some_, hs.1, hs.2.2⟩
  · unfold untilX addI lim at ht
    unfold lim
    omega
  · unfold untilX addI lim at ht
    unfold lim
    omega

/-! ### Ended -/
theorem alook_upd (U : Sss) (i k : Str) (f : Sess → Sess) : alook (updU U i f) k = if i = k then (alook U k).map f else alook U k := by
  unfold updU
  cases h : alook U i with
  | none =>
    by_cases e : i = k
    · subst e; rw [if_pos rfl, h]; rfl
    · rw [if_neg e]
  | some x =>
    show alook (aput U i (f x)) k = _
    rw [alook_put]
    by_cases e : i = k
    · subst e; rw [if_pos rfl, if_pos rfl, h]; rfl
    · rw [if_neg e, if_neg e]
structure AfterEnd (U V : Sss) (id : Str) (x : Sess) (now : Int) : Prop where
  none_ : ∀ t, findC V id t = 6
  end_ : endC V id = 6
  of_ : ∀ u t, id ∉ ofL V u t
  len : lenN U = lenN V + 1
  twice : ∀ user tenant device l, wordB user = true → wordB tenant = true → devB device = true → startC V id user tenant device l = 7
  again : ∀ user tenant device l, wordB user = true → wordB tenant = true → devB device = true → l.length ≠ 0 → addsE l = 0 → startC (expU V x.until_) id user tenant device l = 0
theorem aput_filter_len {U : Sss} (hu : AUniq U) {id : Str} {x y : Sess} (hx : alook U id = some x) (f : Sess → Bool) (hf : f x = true) (hg : f y = false) : (U.filter fun p => f p.2).length = ((aput U id y).filter fun p => f p.2).length + 1 := by
  have hs : (alook U id).isSome = true := by rw [hx]; rfl
  unfold aput
  rw [if_pos hs]
  clear hs
  induction U with
  | nil => simp [alook] at hx
  | cons a r ih =>
    obtain ⟨h1, h2⟩ := List.pairwise_cons.1 hu
    rw [alook_cons] at hx
    by_cases e : a.1 = id
    · rw [if_pos e] at hx
      injection hx with hx
      have hr : r.map (fun p => if p.1 = id then (id, y) else p) = r := by
        conv => rhs; rw [← List.map_id r]
        apply List.map_congr_left
        intro p hp
        rw [if_neg (fun e2 => h1 p hp (by rw [e, e2]))]; rfl
      rw [List.map_cons, if_pos e, hr, List.filter_cons_of_pos (by rw [hx]; exact hf), List.filter_cons_of_neg (by simp [hg])]
      rfl
    · rw [if_neg e] at hx
      have := ih h2 hx
      rw [List.map_cons, if_neg e, List.filter_cons, List.filter_cons]
      split <;> simp [this]
theorem ofL_mem {U : Sss} {id u : Str} {t : Int} : id ∈ ofL U u t ↔ ∃ x, (id, x) ∈ U ∧ liveB x (lim t) = true ∧ x.user = u := by
  unfold ofL
  rw [(sortS_perm _).mem_iff, List.mem_map]
  constructor
  · rintro ⟨p, hp, rfl⟩
    obtain ⟨h1, h2⟩ := List.mem_filter.1 hp
    simp at h2
    exact ⟨p.2, h1, h2.1, h2.2⟩
  · rintro ⟨x, h1, h2, h3⟩
    exact ⟨(id, x), List.mem_filter.2 ⟨h1, by simp [h2, h3]⟩, rfl⟩
theorem ended_ok {idle abs : Int} {U : Sss} (h : Good idle abs U) (hl : U.length ≤ 24) {id : Str} {now : Int} (hf : findC U id now = 0) : ∃ x, alook U id = some x ∧ endC U id = 0 ∧ endL U id = x.clients ∧ AfterEnd U (endU U id) id x now := by
  obtain ⟨x, hx, he, hu⟩ := find_some hf
  have hE : endC U id = 0 := by unfold endC; rw [hx]; show (if x.ended = true then (6 : Int) else 0) = 0; rw [he]; rfl
  have hV : endU U id = updU U id endX := by unfold endU; rw [if_pos hE]
  have hVl : alook (endU U id) id = some (endX x) := by rw [hV, alook_upd, if_pos rfl, hx]; rfl
  have hVg : Good idle abs (endU U id) := by rw [hV]; exact h.upd _ _ (fun y hy => (h.look hy).end_)
  have hw : wordB id = true := h.word (id, x) (alook_some hx)
  have hi := h.look hx
  refine ⟨x, hx, hE, by unfold endL; rw [if_pos hE]; unfold clientsOf; rw [hx]; rfl, fun t => by unfold findC; rw [hVl]; rfl, by unfold endC; rw [hVl]; rfl, fun u t hm => ?_, ?_, fun user tenant device l h1 h2 h3 => ?_, fun user tenant device l h1 h2 h3 h4 h5 => ?_⟩
  · obtain ⟨y, hy, hl, _⟩ := ofL_mem.1 hm
    have := alook_of_mem hVg.uniq hy
    rw [hVl] at this
    injection this with this
    rw [← this] at hl
    cases hl
  · unfold lenN
    rw [hV]
    unfold updU
    rw [hx]
    exact aput_filter_len h.uniq hx (fun y => !y.ended) (by simp [he]) rfl
  · unfold startC
    rw [hw, h1, h2, h3, hVl]
    rfl
  · have hlen : (expU (endU U id) x.until_).length ≤ 24 := by
      unfold expU
      refine Nat.le_trans (List.length_filter_le _ _) ?_
      rw [hV, upd_len]; exact hl
    have hlook : alook (expU (endU U id) x.until_) id = none := by
      rw [alook_none]
      intro p hp e
      unfold expU at hp
      obtain ⟨h1, h2⟩ := List.mem_filter.1 hp
      have := alook_of_mem hVg.uniq (show (p.1, p.2) ∈ endU U id from h1)
      rw [e, hVl] at this
      injection this with this
      rw [← this] at h2
      have ht : lim x.until_ = x.until_ := by
        have := hi.till
        unfold untilX addI lim at this
        unfold lim
        omega
      unfold expB endX at h2
      simp [ht] at h2
    unfold startC
    rw [hw, h1, h2, h3, hlook, if_neg (by simp), if_neg (by simp), if_neg h4, if_neg (by rw [h5]; simp), if_neg (by omega)]

/-! ### Kept -/
theorem find_congr {U V : Sss} {k : Str} (h : alook U k = alook V k) (now : Int) : findC U k now = findC V k now := by unfold findC; rw [h]
theorem clients_congr {U V : Sss} {k : Str} (h : alook U k = alook V k) : clientsOf U k = clientsOf V k := by unfold clientsOf; rw [h]
theorem alook_exp {U : Sss} (hu : AUniq U) (k : Str) (now : Int) : alook (expU U now) k = (alook U k).bind fun x => if expB x (lim now) then none else some x := by
  unfold expU
  cases h : alook U k with
  | none =>
    show _ = none
    rw [alook_none]
    intro p hp
    exact alook_none.1 h p (List.mem_filter.1 hp).1
  | some x =>
    show _ = if expB x (lim now) then none else some x
    have hm := alook_some h
    by_cases e : expB x (lim now) = true
    · rw [if_pos e, alook_none]
      intro p hp ek
      obtain ⟨h1, h2⟩ := List.mem_filter.1 hp
      have := alook_of_mem hu (show (p.1, p.2) ∈ U from h1)
      rw [ek, h] at this
      injection this with this
      rw [← this, e] at h2
      cases h2
    · rw [if_neg e]
      exact alook_of_mem (List.Pairwise.filter _ hu) (List.mem_filter.2 ⟨hm, by simpa using e⟩)
theorem do_other (idle abs : Int) (U : Sss) (x : OpD) {k : Str} (hk : x.id ≠ k) (h5 : x.call ≠ 5) : alook (doU idle abs U x) k = alook U k := by
  have hup : ∀ f, alook (updU U x.id f) k = alook U k := fun f => by rw [alook_upd, if_neg hk]
  unfold doU
  split
  · unfold startU
    split
    · rw [alook_app, alook_cons, if_neg hk]
      cases alook U k <;> rfl
    · rfl
  · split
    · unfold touchU; split <;> first | exact hup _ | rfl
    · split
      · unfold presU; split <;> first | exact hup _ | rfl
      · split
        · unfold joinU; split <;> first | exact hup _ | rfl
        · split
          · unfold endU; split <;> first | exact hup _ | rfl
          · rfl
theorem start_congr {U V : Sss} {k : Str} (h : alook U k = alook V k) (hU : U.length < 256) (hV : V.length < 256) (user tenant device : Str) (l : List Prf) : startC U k user tenant device l = startC V k user tenant device l := by
  unfold startC
  rw [h, if_neg (show ¬ 256 ≤ U.length by omega), if_neg (show ¬ 256 ≤ V.length by omega)]
theorem upd_congr {U V : Sss} {k : Str} (h : alook U k = alook V k) (f : Sess → Sess) {c d : Int} (hc : c = d) : alook (if c = 0 then updU U k f else U) k = alook (if d = 0 then updU V k f else V) k := by
  subst hc
  split
  · rw [alook_upd, alook_upd, h]
  · exact h
theorem do_same {idle abs : Int} {U V : Sss} (hU : AUniq U) (hV : AUniq V) (lU : U.length < 256) (lV : V.length < 256) (x : OpD) {k : Str} (h : alook U k = alook V k) (hx : x.id = k ∨ x.call = 5) : alook (doU idle abs U x) k = alook (doU idle abs V x) k := by
  by_cases h5 : x.call = 5
  · unfold doU
    rw [if_neg (by omega), if_neg (by omega), if_neg (by omega), if_neg (by omega), if_neg (by omega), if_pos h5]
    rw [if_neg (by omega), if_neg (by omega), if_neg (by omega), if_neg (by omega), if_neg (by omega), if_pos h5]
    rw [alook_exp hU, alook_exp hV, h]
  have hk : x.id = k := hx.resolve_right h5
  subst hk
  unfold doU
  split
  · unfold startU
    rw [start_congr h lU lV]
    split
    · rw [alook_app, alook_app, h]
    · exact h
  · split
    · exact upd_congr h _ (find_congr h _)
    · split
      · exact upd_congr h _ (by unfold presC; rw [find_congr h])
      · split
        · exact upd_congr h _ (by unfold joinC; rw [find_congr h, clients_congr h])
        · split
          · exact upd_congr h _ (by unfold endC; rw [h])
          · exact h
end Go.Proofs.Ytakccoiecmibcaa
