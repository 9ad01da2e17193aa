/- Due of the reference, walked. -/
import Derived.Test.YtdikijbkfhimoaaRl4
namespace Go.Proofs.Ytdikijbkfhimoaa
open Go.RowKit Go.Maps

/-- While Due goes over the sessions: Z is what they have become, D was collected. -/
structure DuR (w wr : World) (qb most delay : Nat) (a : Option Addr) (cap : Nat) (Y Z : List RQ) (D : List Pr) (pa : Option Addr) (pc : Nat) : Prop where
  rat : RAt wr qb most delay a cap Z
  prs : OwnPr (bare w) wr pa pc D
  new : ∀ i ∈ fp pa, w.heap.size ≤ i
  kept : Kept (rdom qb a Y) w wr
  dom : ∀ i, i ∈ rdom qb a Z ↔ i ∈ rdom qb a Y
def inZ (delay : Nat) (now : Int) (Y : List RQ) (i : Nat) (y : RQ) (k : Nat) : List RQ := (mapTo (rdueQ delay now) Y i).set i ⟨y.id, mapTo (rdueN delay now) y.l k, y.na, y.nc⟩
section
variable {w wr w2 : World} {qb most delay : Nat} {a : Option Addr} {cap : Nat} {Y Z : List RQ} {D : List Pr} {pa : Option Addr} {pc : Nat} {now : Int} {i k : Nat} {y : RQ}
theorem DuR.start (h : RAt w qb most delay a cap Y) (k : Kept [] w wr) : DuR w wr qb most delay a cap Y Y [] none 0 :=
  ⟨h.keptN k, ⟨World.ownsRow_nil _ _ _ _, bare_kept k, by simp [fp]⟩, by simp [fp], k.mono (by simp), fun _ => Iff.rfl⟩
theorem DuR.keptN (h : DuR w wr qb most delay a cap Y Z D pa pc) (k : Kept [] wr w2) : DuR w w2 qb most delay a cap Y Z D pa pc :=
  ⟨h.rat.keptN k, h.prs.later k, h.new, h.kept.step k (by simp), h.dom⟩
theorem DuR.apart (h : DuR w wr qb most delay a cap Y Z D pa pc) : ∀ i ∈ fp pa, i ∉ rdom qb a Z := by
  intro i hi hm
  obtain ⟨cur, hc⟩ := row_blk h.prs.row i hi
  rcases rdom_mem.1 hm with e | e | ⟨y, hy, e⟩
  · rw [e, h.rat.blk] at hc
    injection hc with hc
    injection hc with _ hc _
    exact absurd hc (by decide)
  · obtain ⟨cur2, hc2⟩ := row_blk h.rat.row i e
    rw [hc] at hc2
    injection hc2 with hc2
    injection hc2 with _ hc2 _
    exact absurd hc2 (by decide)
  · obtain ⟨cur2, hc2⟩ := row_blk (h.rat.each y hy) i e
    rw [hc] at hc2
    injection hc2 with hc2
    injection hc2 with _ hc2 _
    exact absurd hc2 (by decide)
theorem DuR.state (h : DuR w wr qb most delay a cap Y Z D pa pc) (hi : i < Z.length) {b : Nat} (ha : Z[i].na = some ⟨b, 0, none⟩) (hk : k < Z[i].l.length) (v : Int) :
    DuR w (wr.setCell ⟨b, k * 4 + 3, none⟩ (.int .i64 v)) qb most delay a cap Y (Z.set i ⟨Z[i].id, Z[i].l.set k ⟨Z[i].l[k].c, Z[i].l[k].failed, Z[i].l[k].begun, v⟩, Z[i].na, Z[i].nc⟩) D pa pc := by
  have hb : b ∈ rdom qb a Z := rdom_mem.2 (.inr (.inr ⟨_, List.getElem_mem hi, by rw [ha]; simp [fp]⟩))
  have kb : Kept [b] wr (wr.setCell ⟨b, k * 4 + 3, none⟩ (.int .i64 v)) := (Kept.refl [b] wr).setCell (.inl (by simp)) _
  have kk : Kept (rdom qb a Y) w (wr.setCell ⟨b, k * 4 + 3, none⟩ (.int .i64 v)) := h.kept.step kb (fun j hj => by simp at hj; rw [hj]; exact (h.dom b).1 hb)
  exact ⟨h.rat.state hi ha hk v, ⟨row_kept h.prs.row kb (fun j hj hm => by simp at hm; rw [hm] at hj; exact h.apart b hj hb), bare_kept kk, h.prs.new⟩, h.new, kk, fun j => (rdom_set hi).trans (h.dom j)⟩
theorem DuR.app (h : DuR w wr qb most delay a cap Y Z D pa pc) {D' : List Pr} {pa' : Option Addr} {pc' : Nat} (o : OwnPr (bare w) w2 pa' pc' D') (kp : Kept (fp pa) wr w2) (hf : ∀ i ∈ fp pa', i ∈ fp pa ∨ wr.heap.size ≤ i) : DuR w w2 qb most delay a cap Y Z D' pa' pc' :=
  ⟨h.rat.kept kp (fun i hi hm => h.apart i hm hi), o, fun i hi => (hf i hi).elim (h.new i) (fun e => Nat.le_trans h.kept.size e), h.kept.trans kp (fun i hi => .inr (h.new i hi)), h.dom⟩
theorem inZ_len : (inZ delay now Y i y k).length = Y.length := by unfold inZ; rw [List.length_set, mapTo_len]
theorem inZ_at (hi : i < Y.length) : (inZ delay now Y i y k)[i]'(by rw [inZ_len]; exact hi) = ⟨y.id, mapTo (rdueN delay now) y.l k, y.na, y.nc⟩ := by
  unfold inZ; rw [List.getElem_set_self]
theorem inZ_zero (hi : i < Y.length) (hy : y = Y[i]) : inZ delay now Y i y 0 = mapTo (rdueQ delay now) Y i := by
  subst hy
  unfold inZ
  rw [mapTo_zero]
  apply List.ext_getElem (by rw [List.length_set])
  intro j h1 h2
  rw [List.getElem_set]
  by_cases e : i = j
  · subst e; rw [if_pos rfl, mapTo_get hi]
  · rw [if_neg e]
theorem inZ_all (hi : i < Y.length) (hy : y = Y[i]) (hk : y.l.length ≤ k) : inZ delay now Y i y k = mapTo (rdueQ delay now) Y (i + 1) := by
  subst hy
  unfold inZ
  rw [mapTo_all hk]
  exact mapTo_next (f := rdueQ delay now) hi
theorem inZ_next (hk : k < y.l.length) : (inZ delay now Y i y k).set i ⟨y.id, (mapTo (rdueN delay now) y.l k).set k (rdueN delay now y.l[k]), y.na, y.nc⟩ = inZ delay now Y i y (k + 1) := by
  unfold inZ
  rw [List.set_set, mapTo_next hk]
theorem inZ_same (hk : k < y.l.length) (h : rdueN delay now y.l[k] = y.l[k]) : inZ delay now Y i y (k + 1) = inZ delay now Y i y k := by
  unfold inZ
  rw [mapTo_same hk h]
theorem DuR.sess (h : DuR w wr qb most delay a cap Y (mapTo (rdueQ delay now) Y i) D pa pc) (hi : i < Y.length) : ∃ b, a = some ⟨b, 0, none⟩ ∧ b < wr.heap.size ∧ wr.cell? ⟨b, i * 2, none⟩ = some (sV Y[i].id) ∧ wr.cell? ⟨b, i * 2 + 1, none⟩ = some (.slice Y[i].na Y[i].l.length Y[i].nc) := by
  obtain ⟨b, e, hb, h0, h1⟩ := h.rat.get (i := i) (by rw [mapTo_len]; exact hi)
  rw [mapTo_get hi] at h0 h1
  exact ⟨b, e, hb, h0, h1⟩
/-- Within a session: a copy of it lies in block g. -/
structure DuI (w wr : World) (qb most delay : Nat) (a : Option Addr) (cap : Nat) (Y Z : List RQ) (D : List Pr) (pa : Option Addr) (pc : Nat) (y : RQ) (g : Nat) : Prop where
  du : DuR w wr qb most delay a cap Y Z D pa pc
  blk : wr.heap[g]? = some (.cells #[sV y.id, .slice y.na y.l.length y.nc] 77 (0, 0))
  gn : w.heap.size ≤ g
theorem DuI.keptN {g : Nat} (h : DuI w wr qb most delay a cap Y Z D pa pc y g) (k : Kept [] wr w2) : DuI w w2 qb most delay a cap Y Z D pa pc y g :=
  ⟨h.du.keptN k, k.at h.blk (by simp), h.gn⟩
theorem DuI.app {g : Nat} (h : DuI w wr qb most delay a cap Y Z D pa pc y g) {D' : List Pr} {pa' : Option Addr} {pc' : Nat} (o : OwnPr (bare w) w2 pa' pc' D') (kp : Kept (fp pa) wr w2) (hf : ∀ i ∈ fp pa', i ∈ fp pa ∨ wr.heap.size ≤ i) : DuI w w2 qb most delay a cap Y Z D' pa' pc' y g :=
  ⟨h.du.app o kp hf, kp.at h.blk (fun hm => by
    obtain ⟨cur, hc⟩ := row_blk h.du.prs.row g hm
    rw [h.blk] at hc
    injection hc with hc
    injection hc with _ hc _
    exact absurd hc (by decide)), h.gn⟩
theorem DuI.note {g : Nat} (h : DuI w wr qb most delay a cap Y (inZ delay now Y i y k) D pa pc y g) (hi : i < Y.length) (hk : k < y.l.length) : ∃ b, y.na = some ⟨b, 0, none⟩ ∧ b < wr.heap.size ∧ wr.cell? ⟨b, k * 4, none⟩ = some (sV y.l[k].c) ∧ wr.cell? ⟨b, k * 4 + 1, none⟩ = some (.int .i64 (y.l[k].failed : Int)) ∧ wr.cell? ⟨b, k * 4 + 2, none⟩ = some (.int .i64 y.l[k].begun) ∧ wr.cell? ⟨b, k * 4 + 3, none⟩ = some (.int .i64 y.l[k].state) ∧ (∀ j, wr.frozen? ⟨b, j, none⟩ = false) ∧
    (rripe delay now y.l[k] = true → ∀ {w3 : World}, DuI w w3 qb most delay a cap Y (inZ delay now Y i y k) D pa pc y g → DuI w (w3.setCell ⟨b, k * 4 + 3, none⟩ (.int .i64 1)) qb most delay a cap Y (inZ delay now Y i y (k + 1)) D pa pc y g) := by
  have hz : i < (inZ delay now Y i y k).length := by rw [inZ_len]; exact hi
  have e := inZ_at (delay := delay) (now := now) (y := y) (k := k) hi
  have hl : k < (inZ delay now Y i y k)[i].l.length := by rw [e, mapTo_len]; exact hk
  obtain ⟨b, e1, hb, h0, h1, h2, h3, hf⟩ := h.du.rat.note hz hl
  have e2 : (inZ delay now Y i y k)[i].l[k] = y.l[k] := by simp only [e]; exact mapTo_get hk
  rw [e2] at h0 h1 h2 h3
  have e3 : y.na = some ⟨b, 0, none⟩ := by rw [e] at e1; exact e1
  refine ⟨b, e3, hb, h0, h1, h2, h3, hf, fun hr w3 h' => ?_⟩
  have hs := h'.du.state hz e1 hl 1
  have hbd : b ∈ rdom qb a Y := (h'.du.dom b).1 (rdom_mem.2 (.inr (.inr ⟨_, List.getElem_mem hz, by rw [e1]; simp [fp]⟩)))
  refine ⟨?_, ((Kept.refl [b] w3).setCell (.inl (by simp)) _).at h'.blk (fun hm => ?_), h'.gn⟩
  · have e4 : (⟨(inZ delay now Y i y k)[i].id, (inZ delay now Y i y k)[i].l.set k ⟨(inZ delay now Y i y k)[i].l[k].c, (inZ delay now Y i y k)[i].l[k].failed, (inZ delay now Y i y k)[i].l[k].begun, 1⟩, (inZ delay now Y i y k)[i].na, (inZ delay now Y i y k)[i].nc⟩ : RQ) = ⟨y.id, (mapTo (rdueN delay now) y.l k).set k (rdueN delay now y.l[k]), y.na, y.nc⟩ := by
      rw [e2, rdueN_yes hr]
      simp only [e]
    rw [e4, inZ_next hk] at hs
    exact hs
  · simp at hm
    obtain ⟨cur, hc⟩ : ∃ cur, w3.heap[b]? = some (.cells cur 81 (0, 0)) := row_blk (h'.du.rat.each _ (List.getElem_mem hz)) b (by rw [e1]; simp [fp])
    rw [← hm, h'.blk] at hc
    injection hc with hc
    injection hc with _ hc _
    exact absurd hc (by decide)
end
end Go.Proofs.Ytdikijbkfhimoaa
