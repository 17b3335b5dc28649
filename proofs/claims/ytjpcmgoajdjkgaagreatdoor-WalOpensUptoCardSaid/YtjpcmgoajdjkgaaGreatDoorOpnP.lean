/- What Open leaves, plain: a disk that runs, records that are not too great. -/
import Derived.Test.YtjpcmgoajdjkgaaGreatDoorROpP
import Derived.Test.YtjpcmgoajdjkgaaGreatDoorInv
set_option linter.all false
namespace Go.Proofs.YtjpcmgoajdjkgaaGreatDoor
open Go.RowKit
open Wal (nextB fileB)

theorem Runs.stp {D : DiskM} (h : Runs D) (ok : Bool) : Runs (D.step ok).1 := by
  have hk := step_keeps D ok
  have hs : (D.step ok).1.down = false := by
    cases ok with
    | true => rw [h.step]; exact h.up
    | false => unfold DiskM.step; rw [h.up]; simp [h.up]
  exact ⟨by rw [hk.2.2]; exact h.plan, hs⟩
theorem read_fst (D : DiskM) (s : List UInt8) : (D.read s).1 = (D.step (dnameB s)).1 := by
  unfold DiskM.read
  split
  · rfl
  · split <;> rfl
theorem Runs.trc {D : DiskM} (h : Runs D) (s : List UInt8) (n : Int) : Runs (D.trunc s n).1 := by
  have := h.stp (dnameB s)
  unfold DiskM.trunc
  split
  · exact this
  · split
    · exact this
    · split
      · exact this
      · exact ⟨this.plan, this.up⟩
theorem Runs.load {D : DiskM} (h : Runs D) (G : LogM) (k : Int) (last : Bool) : Runs (LogM.load D G k last).1 := by
  have hr : Runs (D.read (fileB G.name k)).1 := by rw [read_fst]; exact h.stp _
  unfold LogM.load
  split
  · exact hr
  · split
    · exact hr
    · split
      · exact hr
      · split
        · exact hr.trc _ _
        · exact hr
theorem Runs.all : ∀ (l : List Int) (i : Nat) (D : DiskM) (G : LogM), Runs D → Runs (openAll l i D G).1
  | [], _, D, G, h => h
  | k :: r, i, D, G, h => by
    unfold openAll
    generalize (if i = 0 then { G with first := k } else G) = G0
    split
    · exact h.load _ _ _
    · exact Runs.all r (i + 1) _ _ (h.load _ _ _)
theorem Runs.opened {D : DiskM} (h : Runs D) (name : List UInt8) (most : Int) : Runs (openM D name most).1 := by
  unfold openM
  split
  · exact h
  · split
    · exact h
    · exact Runs.all _ _ _ _ h

def Small (D : DiskM) : Prop := ∀ f ∈ D.files, f.b.length ≤ 1073741824
def SmallR (l : List (List UInt8)) : Prop := ∀ x ∈ l, x.length ≤ 1073741824
theorem seqF_small (B : Nat) : ∀ (f : Nat) (l : List UInt8), l.length ≤ B → ∀ x ∈ seqF f l, x.1.length ≤ B
  | 0, l, _, x, h => by simp [seqF] at h
  | f + 1, l, hl, x, h => by
    have hn := next_le l
    unfold seqF at h
    split at h
    · simp at h
    · split at h
      · rcases List.mem_cons.1 h with rfl | h
        · exact Nat.le_trans hn hl
        · exact seqF_small B f _ (by rw [List.length_drop]; omega) x h
      · rw [List.mem_singleton] at h
        subst h
        exact Nat.le_trans hn hl
theorem scanS_small (B : Nat) (last : Bool) : ∀ (l : List (List UInt8 × Nat × Nat)) (xs : List (List UInt8)) (m : Nat), (∀ x ∈ l, x.1.length ≤ B) → scanS last l = some (xs, m) → ∀ y ∈ xs, y.length ≤ B
  | [], xs, m, _, h, y, hy => by cases h; simp at hy
  | (x, k, e) :: r, xs, m, hl, h, y, hy => by
    unfold scanS at h
    split at h
    · split at h
      · rename_i ys q hs
        cases h
        rcases List.mem_cons.1 hy with rfl | hy
        · exact hl (y, k, e) (by simp)
        · exact scanS_small B last r ys q (fun z hz => hl z (by simp [hz])) hs y hy
      · cases h
    · split at h
      · cases h; simp at hy
      · cases h
theorem Small.read {D : DiskM} (h : Small D) (s : List UInt8) : Small (D.read s).1 ∧ (D.read s).2.1.length ≤ 1073741824 := by
  obtain ⟨h1, _, _⟩ := step_keeps D (dnameB s)
  have h2 : Small (D.step (dnameB s)).1 := by unfold Small; rw [h1]; exact h
  refine ⟨by rw [read_fst]; exact h2, ?_⟩
  unfold DiskM.read
  split
  · simp
  · split
    · simp
    · rename_i f hf
      exact h f (fileAt_mem hf).1
theorem Small.trc {D : DiskM} (h : Small D) (s : List UInt8) (n : Int) : Small (D.trunc s n).1 := by
  obtain ⟨h1, _, _⟩ := step_keeps D (dnameB s)
  have h2 : Small (D.step (dnameB s)).1 := by unfold Small; rw [h1]; exact h
  unfold DiskM.trunc
  split
  · exact h2
  · split
    · exact h2
    · rename_i f hf
      split
      · exact h2
      · intro g hg
        obtain ⟨g', hg', rfl⟩ := List.mem_map.1 (show g ∈ D.files.map _ from hg)
        split
        · have := h f (fileAt_mem hf).1
          simp only [List.length_take]
          omega
        · exact h g' hg'
theorem Small.load {D : DiskM} (h : Small D) {G : LogM} (hG : SmallR G.recs) (k : Int) (last : Bool) : Small (LogM.load D G k last).1 ∧ SmallR (LogM.load D G k last).2.1.recs := by
  obtain ⟨h1, h2⟩ := h.read (fileB G.name k)
  unfold LogM.load
  split
  · exact ⟨h1, hG⟩
  · split
    · exact ⟨h1, hG⟩
    · split
      · exact ⟨h1, hG⟩
      · rename_i xs m hs
        have hx := scanS_small 1073741824 last _ xs m (seqF_small 1073741824 _ _ h2) hs
        have hxs : SmallR (G.recs ++ xs) := fun x hx' => by
          rcases List.mem_append.1 hx' with hx' | hx'
          · exact hG x hx'
          · exact hx x hx'
        split
        · exact ⟨h1.trc _ _, hxs⟩
        · exact ⟨h1, hxs⟩
theorem Small.all : ∀ (l : List Int) (i : Nat) (D : DiskM) (G G' : LogM), Small D → SmallR G.recs → (openAll l i D G).2.1 = some G' → SmallR G'.recs
  | [], _, D, G, G', _, h, he => by cases he; exact h
  | k :: r, i, D, G, G', hD, h, he => by
    have h0 : SmallR (if i = 0 then { G with first := k } else G).recs := by split <;> exact h
    unfold openAll at he
    generalize (if i = 0 then { G with first := k } else G) = G0 at he h0
    obtain ⟨h1, h2⟩ := hD.load h0 k r.isEmpty
    split at he
    · cases he
    · exact Small.all r (i + 1) _ _ _ h1 h2 he
theorem Small.opened {D : DiskM} (h : Small D) {name : List UInt8} {most : Int} {G : LogM} (he : (openM D name most).2.1 = some G) : SmallR G.recs := by
  unfold openM at he
  split at he
  · cases he
  · split at he
    · cases he
    · exact Small.all _ _ _ _ _ h (fun x hx => by simp [LogM.new] at hx) he
theorem GoodD.small {D : DiskM} (h : GoodD D) : Small D := fun f hf => by have := le_sumLen hf; have := h.sum; omega
end Go.Proofs.YtjpcmgoajdjkgaaGreatDoor
