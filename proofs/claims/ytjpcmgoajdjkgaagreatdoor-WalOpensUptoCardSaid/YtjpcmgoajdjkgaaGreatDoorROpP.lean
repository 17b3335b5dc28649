/- The reference's Open against the program's, plain. -/
import Derived.Test.YtjpcmgoajdjkgaaGreatDoorRPut
import Derived.Test.YtjpcmgoajdjkgaaGreatDoorRWhW
import Derived.Test.YtjpcmgoajdjkgaaGreatDoorInv
set_option linter.all false
namespace Go.Proofs.YtjpcmgoajdjkgaaGreatDoor
open Go.RowKit
open Wal (nextB fileB)

structure GoodD (D : DiskM) : Prop where
  run : Runs D
  nd : (D.files.map (·.name)).Nodup
  few : D.files.length ≤ 16
  sum : sumLen D.files ≤ 1073741824

theorem GoodD.tick {D : DiskM} (h : GoodD D) : GoodD D.tick := ⟨h.run.tick, h.nd, h.few, h.sum⟩
def DiskM.cut (D : DiskM) (f : FileM) (m : Nat) : DiskM := { D with files := setFile D.files { f with b := f.b.take m, safe := m } }
theorem trunc_eq {D : DiskM} (h : Runs D) {s : List UInt8} (hs : dnameB s = true) {f : FileM} (hf : fileAt D.files s = some f) {m : Nat} (hm : m ≤ f.b.length) : D.trunc s (m : Int) = (D.tick.cut f m, 0) := by
  unfold DiskM.trunc
  rw [hs, h.step, if_neg (by simp), hf]
  simp only
  rw [if_neg (by omega)]
  rfl
theorem GoodD.cut {D : DiskM} (h : GoodD D) {f : FileM} (hf : f ∈ D.files) (m : Nat) : GoodD (D.cut f m) := by
  have hfa : fileAt D.files f.name = some f := fileAt_of h.nd hf
  have h1 := set_sum (f' := { f with b := f.b.take m, safe := m }) h.nd hfa
  refine ⟨⟨h.run.plan, h.run.up⟩, ?_, ?_, ?_⟩
  · show ((setFile D.files _).map (·.name)).Nodup
    rw [set_names]; exact h.nd
  · show (setFile D.files _).length ≤ 16
    unfold setFile; rw [List.length_map]; exact h.few
  · show sumLen (setFile D.files _) ≤ _
    have := h.sum
    have h2 : (f.b.take m).length ≤ f.b.length := by rw [List.length_take]; omega
    simp only at h1
    omega
theorem Agree.tick {D : DiskM} {fs : List FileM} (h : Agree D fs) : Agree D.tick fs := h
theorem set_eq {fs : List FileM} (hs : fs.Pairwise (fun a b => a.name < b.name)) {i : Nat} (hi : i < fs.length) {f' : FileM} (hn : fs[i].name = f'.name) : fs.set i f' = setFile fs f' := by
  apply List.ext_getElem
  · simp [setFile]
  · intro j h1 h2
    have hj : j < fs.length := by simpa using h1
    rw [List.getElem_set]
    simp only [setFile, List.getElem_map]
    by_cases hij : i = j
    · subst hij; rw [if_pos rfl, if_pos hn]
    · rw [if_neg hij, if_neg]
      intro e
      have hp := List.pairwise_iff_getElem.1 hs
      rcases Nat.lt_or_ge i j with h | h
      · have := hp i j hi hj h
        rw [hn, e] at this
        exact List.lt_irrefl _ this
      · have := hp j i hj hi (by omega)
        rw [hn, e] at this
        exact List.lt_irrefl _ this
theorem Agree.cut {D : DiskM} {fs : List FileM} (h : Agree D fs) {i : Nat} (hi : i < fs.length) {f : FileM} (hf : fs[i] = f) (m : Nat) : Agree (D.cut f m) (fs.set i { f with b := f.b.take m, safe := m }) := by
  rw [set_eq h.2 hi (f' := { f with b := f.b.take m, safe := m }) (by rw [hf])]
  refine ⟨?_, ?_⟩
  · exact h.1.map _
  · have := set_names fs { f with b := f.b.take m, safe := m }
    have h2 : (fs.map (·.name)).Pairwise (fun a b => a < b) := by rw [List.pairwise_map]; exact h.2
    rw [← this, List.pairwise_map] at h2
    exact h2

theorem scanS_ok (last : Bool) (x : List UInt8) (k : Nat) (r : List (List UInt8 × Nat × Nat)) : scanS last ((x, k, 0) :: r) = (scanS last r).map fun p => (x :: p.1, k + p.2) := by
  show (match scanS last r with | some (xs, m) => some (x :: xs, k + m) | none => none) = _
  cases scanS last r <;> rfl
theorem read_bad {D : DiskM} (h : Runs D) {s : List UInt8} (hs : dnameB s = false) : (D.read s).2.2 = 1 ∧ (D.read s).1.files = D.files := by
  have h1 := step_plain' h.plan h.up false
  obtain ⟨h2, _, _⟩ := step_keeps D false
  unfold DiskM.read
  rw [hs, if_pos (by rw [h1]; decide)]
  exact ⟨by simpa using h1, h2⟩
theorem read_gone {D : DiskM} (h : Runs D) {s : List UInt8} (hs : dnameB s = true) (hf : fileAt D.files s = none) : D.read s = (D.tick, [], 33) := by
  unfold DiskM.read
  rw [hs, h.step, if_neg (by simp), hf]

/-- how far the records of a file are read -/
def scanI (last : Bool) (b : List UInt8) (acc : List (List UInt8)) (sz : Nat) : Prop :=
  sz ≤ b.length ∧ acc.length ≤ sz ∧ scanS last (seqF (b.length + 1) b) = (scanS last (seqF (b.length + 1 - acc.length) (b.drop sz))).map fun p => (acc ++ p.1, sz + p.2)
theorem scanI_start (last : Bool) (b : List UInt8) : scanI last b [] 0 := by
  refine ⟨Nat.zero_le _, Nat.le_refl _, ?_⟩
  cases h : scanS last (seqF (b.length + 1) b) <;> simp [h]
theorem scanI_step {last : Bool} {b : List UInt8} {acc : List (List UInt8)} {sz : Nat} (h : scanI last b acc sz) (hlt : sz < b.length) (he : (nextB (b.drop sz)).2.2 = 0) :
    scanI last b (acc ++ [(nextB (b.drop sz)).1.getD []]) (sz + (nextB (b.drop sz)).2.1) := by
  obtain ⟨h1, h2, h3⟩ := h
  obtain ⟨k1, k2, k3⟩ := next_ok he
  rw [List.length_drop] at k2
  refine ⟨by omega, by simp; omega, ?_⟩
  rw [h3]
  obtain ⟨F, hF⟩ : ∃ F, b.length + 1 - acc.length = F + 1 := ⟨b.length - acc.length, by omega⟩
  have hF2 : b.length + 1 - (acc ++ [(nextB (b.drop sz)).1.getD []]).length = F := by simp; omega
  rw [hF, hF2]
  conv => lhs; unfold seqF
  rw [if_neg (by intro e; have := congrArg List.length e; rw [List.length_drop] at this; simp at this; omega), if_pos he, List.drop_drop, he, scanS_ok]
  cases scanS last (seqF F (b.drop (sz + (nextB (b.drop sz)).2.1))) with
  | none => rfl
  | some p => simp [Nat.add_assoc]
theorem scanI_end {last : Bool} {b : List UInt8} {acc : List (List UInt8)} {sz : Nat} (h : scanI last b acc sz) (hge : ¬ sz < b.length) : scanS last (seqF (b.length + 1) b) = some (acc, sz) := by
  obtain ⟨h1, h2, h3⟩ := h
  rw [h3]
  obtain ⟨F, hF⟩ : ∃ F, b.length + 1 - acc.length = F + 1 := ⟨b.length - acc.length, by omega⟩
  rw [hF, List.drop_eq_nil_of_le (by omega)]
  simp [seqF, scanS]
theorem scanI_left {last : Bool} {b : List UInt8} {acc : List (List UInt8)} {sz : Nat} (h : scanI last b acc sz) (hlt : sz < b.length) (he : (nextB (b.drop sz)).2.2 ≠ 0) :
    scanS last (seqF (b.length + 1) b) = if (nextB (b.drop sz)).2.2 = 10 ∧ last = true then some (acc, sz) else none := by
  obtain ⟨h1, h2, h3⟩ := h
  rw [h3]
  obtain ⟨F, hF⟩ : ∃ F, b.length + 1 - acc.length = F + 1 := ⟨b.length - acc.length, by omega⟩
  rw [hF]
  unfold seqF
  rw [if_neg (by intro e; have := congrArg List.length e; rw [List.length_drop] at this; simp at this; omega), if_neg he]
  unfold scanS
  rw [if_neg he]
  split <;> simp

/-- one file of the log, by the program -/
theorem load_err {D : DiskM} {G : LogM} {k : Int} {last : Bool} {c : Int} (h : (D.read (fileB G.name k)).2.2 = c) (hc : c ≠ 0) : LogM.load D G k last = ((D.read (fileB G.name k)).1, G, c) := by
  unfold LogM.load
  rw [if_pos (by rw [h]; exact hc), h]
theorem load_far {D D' : DiskM} {G : LogM} {k : Int} {last : Bool} {b : List UInt8} (h : D.read (fileB G.name k) = (D', b, 0)) (hk : k ≠ G.fin) : LogM.load D G k last = (D', G, 34) := by
  unfold LogM.load
  rw [h, if_neg (by simp), if_pos hk]
theorem load_rot' {D D' : DiskM} {G : LogM} {k : Int} {last : Bool} {b : List UInt8} (h : D.read (fileB G.name k) = (D', b, 0)) (hk : k = G.fin) (hs : scanS last (seqF (b.length + 1) b) = none) : LogM.load D G k last = (D', G, 34) := by
  unfold LogM.load
  rw [h, if_neg (by simp), if_neg (by simpa using hk)]
  simp only
  rw [hs]
theorem load_whole {D D' : DiskM} {G : LogM} {k : Int} {last : Bool} {b : List UInt8} {xs : List (List UInt8)} {m : Nat} (h : D.read (fileB G.name k) = (D', b, 0)) (hk : k = G.fin) (hs : scanS last (seqF (b.length + 1) b) = some (xs, m)) (hm : ¬ m < b.length) :
    LogM.load D G k last = (D', { G with recs := G.recs ++ xs, parts := G.parts ++ [⟨k, xs.length, m⟩] }, 0) := by
  unfold LogM.load
  rw [h, if_neg (by simp), if_neg (by simpa using hk)]
  simp only
  rw [hs]
  simp only
  rw [if_neg hm]
theorem load_cutoff {D D' D2 : DiskM} {G : LogM} {k : Int} {last : Bool} {b : List UInt8} {xs : List (List UInt8)} {m : Nat} (h : D.read (fileB G.name k) = (D', b, 0)) (hk : k = G.fin) (hs : scanS last (seqF (b.length + 1) b) = some (xs, m)) (hm : m < b.length)
    (ht : D'.trunc (fileB G.name k) (m : Int) = (D2, 0)) :
    LogM.load D G k last = (D2, { G with recs := G.recs ++ xs, parts := G.parts ++ [⟨k, xs.length, m⟩] }, 0) := by
  unfold LogM.load
  rw [h, if_neg (by simp), if_neg (by simpa using hk)]
  simp only
  rw [hs]
  simp only
  rw [if_pos hm, ht]
def LogM.at0 (G : LogM) (i : Nat) (k : Int) : LogM := if i = 0 then { G with first := k } else G
theorem openAll_bad {k : Int} {r : List Int} {i : Nat} {D D' : DiskM} {G G' : LogM} {c : Int} (h : LogM.load D (G.at0 i k) k r.isEmpty = (D', G', c)) (hc : c ≠ 0) : openAll (k :: r) i D G = (D', none, c) := by
  unfold openAll
  unfold LogM.at0 at h
  rw [h, if_pos hc]
theorem openAll_go {k : Int} {r : List Int} {i : Nat} {D D' : DiskM} {G G' : LogM} (h : LogM.load D (G.at0 i k) k r.isEmpty = (D', G', 0)) : openAll (k :: r) i D G = openAll r (i + 1) D' G' := by
  conv => lhs; unfold openAll
  unfold LogM.at0 at h
  rw [h, if_neg (by simp)]
end Go.Proofs.YtjpcmgoajdjkgaaGreatDoor
