/- One notification under calls, plainly. -/
import Derived.Test.YtdikijbkfhimoaaCountP
namespace Go.Proofs.Ytdikijbkfhimoaa
open Go.RowKit Go.Maps

def sS : Str := [115]
def cS : Str := [99]
/-- What is known of the notification of s and c: how often it came out, whether it is out, done, how often it failed. -/
structure Att (n : Nat) (U : Log) (times : Nat) (out done : Bool) (failed : Nat) : Prop where
  st : ∃ (x : Ses) (nt : Note), alook U sS = some x ∧ x.2.length = 2 ∧ alook x.2 cS = some nt ∧ out = decide (nt.1 = 1) ∧ done = decide (nt.1 = 2) ∧ failed = nt.2 ∧ times = nt.2 + (if nt.1 = 1 ∨ nt.1 = 2 then 1 else 0) ∧ (nt.1 = 2 → nt.2 < n)
theorem att_set {n : Nat} {U : Log} {x : Ses} {nt : Note} (hx : alook U sS = some x) (hl : x.2.length = 2) (hn : alook x.2 cS = some nt) (nt' : Note) (h2 : nt'.1 = 2 → nt'.2 < n) : Att n (setU U sS cS nt') (nt'.2 + (if nt'.1 = 1 ∨ nt'.1 = 2 then 1 else 0)) (decide (nt'.1 = 1)) (decide (nt'.1 = 2)) nt'.2 := by
  refine ⟨(x.1, aput x.2 cS nt'), nt', by rw [look_setU hx, if_pos rfl], ?_, by show alook (aput x.2 cS nt') cS = _; rw [alook_put, if_pos rfl], rfl, rfl, rfl, rfl, h2⟩
  show (aput x.2 cS nt').length = 2
  rw [aput_len, hn]
  exact hl
theorem Att.fine {n : Nat} {U : Log} {times failed : Nat} {out done : Bool} (h : Att n U times out done failed) (hg : Good n 1 U) : ∃ (x : Ses) (nt : Note), alook U sS = some x ∧ x.2.length = 2 ∧ alook x.2 cS = some nt ∧ out = decide (nt.1 = 1) ∧ done = decide (nt.1 = 2) ∧ failed = nt.2 ∧ times = nt.2 + (if nt.1 = 1 ∨ nt.1 = 2 then 1 else 0) ∧ (nt.1 = 2 → nt.2 < n) ∧ Fine n nt := by
  obtain ⟨x, nt, h1, h2, h3, h4, h5, h6, h7, h8⟩ := h.st
  exact ⟨x, nt, h1, h2, h3, h4, h5, h6, h7, h8, (hg.each _ (alook_some h1)).note _ (alook_some h3)⟩
theorem Att.endE {n : Nat} {U : Log} {times failed : Nat} {out done : Bool} (h : Att n U times out done failed) : endE U sS cS = if out = true then 0 else 12 := by
  obtain ⟨x, nt, h1, h2, h3, h4, _⟩ := h.st
  unfold Go.Proofs.Ytdikijbkfhimoaa.endE
  rw [noteAt_some h1, h3]
  by_cases h : nt.1 = 1
  · simp [h4, h]
  · simp [h4, h]
theorem Att.doneCall {n : Nat} {U : Log} {times failed : Nat} {out done : Bool} (h : Att n U times out done failed) (hg : Good n 1 U) : Att n (endU doneN U sS cS) times false (done || out) failed := by
  obtain ⟨x, nt, h1, h2, h3, h4, h5, h6, h7, h8, hf⟩ := h.fine hg
  have hna : noteAt U sS cS = some nt := by rw [noteAt_some h1, h3]
  unfold endU
  rw [hna]
  dsimp only
  by_cases hs : nt.1 = 1
  · rw [if_pos hs]
    have hlt := hf.open_ (.inr hs)
    have := att_set h1 h2 h3 (n := n) (doneN nt) (fun _ => hlt)
    simp [doneN] at this
    simp [hs] at h4 h5 h7
    rw [h4, h5, h6, h7]
    exact this
  · rw [if_neg hs]
    simp [hs] at h4
    rw [h4]
    refine ⟨x, nt, h1, h2, h3, by simp [hs], by rw [h5]; simp, h6, h7, h8⟩
theorem Att.failCall {n : Nat} {U : Log} {times failed : Nat} {out done : Bool} (h : Att n U times out done failed) : Att n (endU (failN n) U sS cS) times false done (if out = true then failed + 1 else failed) := by
  obtain ⟨x, nt, h1, h2, h3, h4, h5, h6, h7, h8⟩ := h.st
  have hna : noteAt U sS cS = some nt := by rw [noteAt_some h1, h3]
  unfold endU
  rw [hna]
  dsimp only
  by_cases hs : nt.1 = 1
  · rw [if_pos hs]
    simp [hs] at h4 h5 h7
    by_cases hm : nt.2 + 1 = n
    · have := att_set h1 h2 h3 (n := n) (failN n nt) (fun e => by unfold failN at e; rw [if_pos hm] at e; simp at e)
      unfold failN at this ⊢
      rw [if_pos hm] at this ⊢
      simp at this
      rw [h4, h5, h6, h7]
      exact this
    · have := att_set h1 h2 h3 (n := n) (failN n nt) (fun e => by unfold failN at e; rw [if_neg hm] at e; simp at e)
      unfold failN at this ⊢
      rw [if_neg hm] at this ⊢
      simp at this
      rw [h4, h5, h6, h7]
      exact this
  · rw [if_neg hs]
    simp [hs] at h4
    rw [h4]
    exact ⟨x, nt, h1, h2, h3, by simp [hs], h5, h6, h7, h8⟩
/-- The call is none on the notification itself. -/
def Plainly (x : OpD) : Prop := ¬ ((x.kind = 2 ∨ x.kind = 3) ∧ x.id = sS ∧ x.cl = cS)
theorem endU_other {f : Note → Note} {U : Log} {s c : Str} {x : Ses} {nt : Note} (h1 : alook U sS = some x) (h2 : x.2.length = 2) (h3 : alook x.2 cS = some nt) (hne : ¬ (s = sS ∧ c = cS)) : ∃ y, alook (endU f U s c) sS = some y ∧ y.2.length = 2 ∧ alook y.2 cS = some nt := by
  unfold endU
  cases hn : noteAt U s c with
  | none => exact ⟨x, h1, h2, h3⟩
  | some k =>
    dsimp only
    by_cases hk : k.1 = 1
    · rw [if_pos hk]
      obtain ⟨z, hz, hc⟩ := noteAt_iff.1 hn
      rw [look_setU hz]
      by_cases hs : s = sS
      · subst hs
        rw [hz] at h1
        injection h1 with h1
        subst h1
        rw [if_pos rfl]
        refine ⟨_, rfl, by show (aput z.2 c (f k)).length = _; rw [aput_len, hc]; exact h2, ?_⟩
        show alook (aput z.2 c (f k)) cS = _
        rw [alook_put, if_neg (fun e => hne ⟨rfl, e⟩)]
        exact h3
      · rw [if_neg hs]
        exact ⟨x, h1, h2, h3⟩
    · rw [if_neg hk]
      exact ⟨x, h1, h2, h3⟩
theorem Att.play {n : Nat} {U : Log} {times failed : Nat} {out done : Bool} (h : Att n U times out done failed) {x : OpD} (hp : Plainly x) {m : List Pr} (hm : PlayRes 1 U x m) :
    ((sS, cS) ∈ m → out = false ∧ done = false ∧ Att n (playU n 1 U x) (times + 1) true done failed) ∧ ((sS, cS) ∉ m → Att n (playU n 1 U x) times out done failed) := by
  obtain ⟨y, nt, h1, h2, h3, h4, h5, h6, h7, h8⟩ := h.st
  unfold PlayRes at hm
  unfold playU
  by_cases k1 : x.kind = 1
  · rw [if_pos k1] at hm
    have hd : (sS, cS) ∈ m ↔ ripe 1 y.1 (lim x.now) nt = true := by
      rw [hm.2]
      unfold isDue
      constructor
      · rintro ⟨z, hz, k, hk, hr⟩
        dsimp only at hz hk
        rw [h1] at hz
        injection hz with hz
        subst hz
        rw [h3] at hk
        injection hk with hk
        subst hk
        exact hr
      · exact fun hr => ⟨y, h1, nt, h3, hr⟩
    have hk0 : ¬ x.kind = 0 := by omega
    rw [if_neg hk0, if_pos k1]
    have hl1 : alook (dueU 1 (lim x.now) U) sS = some (dueS 1 (lim x.now) y) := by rw [look_dueU, h1]; rfl
    have hl2 : (dueS 1 (lim x.now) y).2.length = 2 := by show (y.2.map _).length = 2; rw [List.length_map]; exact h2
    have hl3 : alook (dueS 1 (lim x.now) y).2 cS = some (dueN 1 y.1 (lim x.now) nt) := by rw [look_dueS, h3]; rfl
    constructor
    · intro hin
      have hr := hd.1 hin
      have h0 : nt.1 = 0 := by unfold ripe at hr; simp at hr; exact hr.1
      rw [dueN_yes hr] at hl3
      refine ⟨by rw [h4, h0]; rfl, by rw [h5, h0]; rfl, _, _, hl1, hl2, hl3, by simp, by rw [h5, h0]; rfl, h6, ?_, fun e => by simp at e⟩
      simp [h0] at h7
      simp [h7]
    · intro hout
      have hr : ripe 1 y.1 (lim x.now) nt = false := by
        cases hr : ripe 1 y.1 (lim x.now) nt with
        | false => rfl
        | true => exact absurd (hd.2 hr) hout
      rw [dueN_no hr] at hl3
      exact ⟨_, _, hl1, hl2, hl3, h4, h5, h6, h7, h8⟩
  · rw [if_neg k1] at hm
    subst hm
    refine ⟨fun hin => by simp at hin, fun _ => ?_⟩
    by_cases k0 : x.kind = 0
    · rw [if_pos k0]
      exact ⟨y, nt, look_begin h1, h2, h3, h4, h5, h6, h7, h8⟩
    · rw [if_neg k0, if_neg k1]
      by_cases k2 : x.kind = 2
      · rw [if_pos k2]
        obtain ⟨z, z1, z2, z3⟩ := endU_other (f := doneN) (s := x.id) (c := x.cl) h1 h2 h3 (fun e => hp ⟨.inl k2, e⟩)
        exact ⟨z, nt, z1, z2, z3, h4, h5, h6, h7, h8⟩
      · rw [if_neg k2]
        by_cases k3 : x.kind = 3
        · rw [if_pos k3]
          obtain ⟨z, z1, z2, z3⟩ := endU_other (f := failN n) (s := x.id) (c := x.cl) h1 h2 h3 (fun e => hp ⟨.inr k3, e⟩)
          exact ⟨z, nt, z1, z2, z3, h4, h5, h6, h7, h8⟩
        · rw [if_neg k3]
          exact ⟨y, nt, h1, h2, h3, h4, h5, h6, h7, h8⟩
theorem att_start (n : Nat) : beginE [] sS [cS, [100]] = 0 ∧ Att n (beginU [] sS [cS, [100]] 0) 0 false false 0 := by
  have hE : beginE [] sS [cS, [100]] = 0 := by decide
  refine ⟨hE, ?_⟩
  unfold beginU
  rw [if_pos hE]
  exact ⟨(lim 0, freshN [cS, [100]]), (0, 0), rfl, rfl, rfl, rfl, rfl, rfl, rfl, fun e => by simp at e⟩
/-- What is asked in the end. -/
theorem Att.end_ {n : Nat} {U : Log} {times failed : Nat} {out done : Bool} (h : Att n U times out done failed) (hg : Good n 1 U) : times ≤ n ∧ failed ≤ n ∧ (statS U sS).1 + (statS U sS).2.1 + (statS U sS).2.2 = 2 ∧ (done = true → 1 ≤ (statS U sS).1) ∧ (failed < n ∨ 1 ≤ (statS U sS).2.1) := by
  obtain ⟨x, nt, h1, h2, h3, h4, h5, h6, h7, h8, hf⟩ := h.fine hg
  have hmem := alook_some h3
  have hc : ∀ v, nt.1 = v → 1 ≤ cntS v x.2 := fun v hv => List.length_pos_of_mem (List.mem_filter.2 ⟨hmem, by simpa using hv⟩)
  have htw := cntS_two x.2
  have hs : statS U sS = (cntS 2 x.2, cntS 3 x.2, x.2.length - cntS 2 x.2 - cntS 3 x.2) := by unfold statS; rw [h1]
  rw [hs]
  have hle := hf.le
  refine ⟨?_, by rw [h6]; exact hle, by dsimp only; omega, fun hd => hc 2 (by rw [h5] at hd; simpa using hd), ?_⟩
  · rw [h7]
    split
    · rename_i hor
      rcases hor with e | e
      · have := hf.open_ (.inr e); omega
      · have := h8 e; omega
    · omega
  · by_cases hlt : nt.2 < n
    · left; rw [h6]; exact hlt
    · right
      refine hc 3 ?_
      rcases hf.state with e | e | e | e
      · exact absurd (hf.open_ (.inl e)) hlt
      · exact absurd (hf.open_ (.inr e)) hlt
      · exact absurd (h8 e) hlt
      · exact e
end Go.Proofs.Ytdikijbkfhimoaa
