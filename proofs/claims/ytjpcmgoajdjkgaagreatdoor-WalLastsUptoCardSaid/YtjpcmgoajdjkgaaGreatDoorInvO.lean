/- A log that is opened again: its files are loaded, one behind the other (plain). -/
import Derived.Test.YtjpcmgoajdjkgaaGreatDoorInvA
set_option linter.all false
namespace Go.Proofs.YtjpcmgoajdjkgaaGreatDoor
open Go.RowKit
open Wal (frameB fourB numB nextB crc fileB)

def okF (b : List UInt8) : List UInt8 × Nat × Nat := (b, 12 + b.length, 0)
theorem frs_cons (b : List UInt8) (r : List (List UInt8)) : frs (b :: r) = frameB b ++ frs r := by simp [frs]
theorem frame_ne (b t : List UInt8) : frameB b ++ t ≠ [] := by
  intro e
  have := congrArg List.length e
  rw [List.length_append, Wal.frameB_length] at this
  simp at this

/-- frames, and behind them other bytes -/
theorem seqF_frs (t : List UInt8) : ∀ (rs : List (List UInt8)) (_ : ∀ b ∈ rs, b.length ≤ 65536) (f : Nat), seqF (rs.length + f) (frs rs ++ t) = rs.map okF ++ seqF f t
  | [], _, f => by simp [frs]
  | b :: r, h, f => by
    rw [frs_cons, List.append_assoc, List.length_cons, show r.length + 1 + f = (r.length + f) + 1 by omega, seqF_frame b (h b (by simp)) _ _, seqF_frs t r (fun x hx => h x (by simp [hx])) f]
    rfl
theorem frs_length_ge : ∀ (rs : List (List UInt8)), rs.length ≤ (frs rs).length
  | [] => by simp [frs]
  | b :: r => by
    rw [frs_cons, List.length_append, Wal.frameB_length, List.length_cons]
    have := frs_length_ge r
    omega
theorem frs_sum : ∀ (rs : List (List UInt8)), (frs rs).length = (rs.map fun b => 12 + b.length).sum
  | [] => rfl
  | b :: r => by rw [frs_cons, List.length_append, Wal.frameB_length, List.map_cons, List.sum_cons, frs_sum r]
theorem scan_ok (last : Bool) (t : List (List UInt8 × Nat × Nat)) : ∀ (rs : List (List UInt8)), scanS last (rs.map okF ++ t) = (scanS last t).map fun x => (rs ++ x.1, (frs rs).length + x.2)
  | [] => by
    simp only [List.map_nil, List.nil_append, frs, List.flatMap_nil, List.length_nil, Nat.zero_add]
    cases scanS last t <;> rfl
  | b :: r => by
    simp only [List.map_cons, List.cons_append, okF, scanS, if_true]
    have := scan_ok last t r
    rw [this, frs_cons, List.length_append, Wal.frameB_length]
    cases scanS last t with
    | none => rfl
    | some x => simp only [Option.map_some]; congr 2; omega
/-- the scan of a whole file -/
theorem scan_full (last : Bool) (rs : List (List UInt8)) (h : ∀ b ∈ rs, b.length ≤ 65536) : scanS last (seqF ((frs rs).length + 1) (frs rs)) = some (rs, (frs rs).length) := by
  have := seqF_frs [] rs h ((frs rs).length + 1 - rs.length)
  rw [List.append_nil, show rs.length + ((frs rs).length + 1 - rs.length) = (frs rs).length + 1 by have := frs_length_ge rs; omega, seqF_nil, List.append_nil] at this
  rw [this]
  have h2 := scan_ok last [] rs
  rw [List.append_nil] at h2
  rw [h2]
  simp [scanS]

/-- a part of a frame is the end -/
theorem nextB_part (b : List UInt8) (h : b.length ≤ 65536) (i : Nat) (hi : i < 12 + b.length) : nextB ((frameB b).take i) = (none, 0, 10) := by
  have hl : ((frameB b).take i).length = i := by rw [List.length_take, Wal.frameB_length]; omega
  unfold nextB
  rw [hl]
  by_cases h12 : i < 12
  · rw [if_pos h12]
  · rw [if_neg h12]
    have hm : b.length % 4294967296 = b.length := by omega
    have e4 : ((frameB b).take i).take 4 = fourB b.length := by
      rw [List.take_take, Nat.min_eq_left (by omega)]
      unfold frameB; rw [hm, List.append_assoc, List.append_assoc]
      exact tke rfl
    have e8 : (((frameB b).take i).drop 4).take 4 = fourB (crc (fourB b.length)) := by
      rw [List.drop_take, List.take_take, Nat.min_eq_left (by omega)]
      unfold frameB; rw [hm, List.append_assoc, List.append_assoc, drp (n := 4) (A := fourB b.length) rfl]
      exact tke rfl
    have hn : numB (fourB b.length) = b.length := Wal.numB_four _ (by omega)
    rw [e4, e8, hn, if_neg (by simp; omega), if_pos (by omega)]

theorem frs_take_split : ∀ (rs : List (List UInt8)) (n : Nat), n ≤ (frs rs).length → ∃ j, j ≤ rs.length ∧ (frs (rs.take j)).length ≤ n ∧
    ((j = rs.length ∧ (frs rs).take n = frs rs) ∨ ∃ b, rs[j]? = some b ∧ n < (frs (rs.take j)).length + (12 + b.length) ∧ (frs rs).take n = frs (rs.take j) ++ (frameB b).take (n - (frs (rs.take j)).length))
  | [], n, h => ⟨0, by simp, by simp [frs], .inl ⟨rfl, by simp [frs]⟩⟩
  | b :: r, n, h => by
    by_cases hn : n < 12 + b.length
    · refine ⟨0, by simp, by simp [frs], .inr ⟨b, rfl, by simp [frs]; omega, ?_⟩⟩
      rw [frs_cons, List.take_append_of_le_length (by rw [Wal.frameB_length]; omega)]
      simp [frs]
    · rw [frs_cons, List.length_append, Wal.frameB_length] at h
      obtain ⟨j, h1, h2, h3⟩ := frs_take_split r (n - (12 + b.length)) (by omega)
      refine ⟨j + 1, by simp; omega, ?_, ?_⟩
      · rw [List.take_succ_cons, frs_cons, List.length_append, Wal.frameB_length]; omega
      · have e : (frs (b :: r)).take n = frameB b ++ (frs r).take (n - (12 + b.length)) := by
          rw [frs_cons, List.take_append, Wal.frameB_length, List.take_of_length_le (by rw [Wal.frameB_length]; omega)]
        rcases h3 with ⟨h3, h4⟩ | ⟨x, h3, h4, h5⟩
        · exact .inl ⟨by simp [h3], by rw [e, h4, frs_cons]⟩
        · refine .inr ⟨x, by simpa using h3, ?_, ?_⟩
          · rw [List.take_succ_cons, frs_cons, List.length_append, Wal.frameB_length]; omega
          · rw [e, h5, List.take_succ_cons, frs_cons, List.append_assoc, List.length_append, Wal.frameB_length]
            rw [Nat.sub_sub]

/-- the scan of the last file, cut anywhere -/
theorem scan_cut (rs : List (List UInt8)) (h : ∀ b ∈ rs, b.length ≤ 65536) (n : Nat) (hn : n ≤ (frs rs).length) : ∃ j, j ≤ rs.length ∧ (frs (rs.take j)).length ≤ n ∧ (j = rs.length ∨ n < (frs (rs.take (j + 1))).length) ∧
    scanS true (seqF (((frs rs).take n).length + 1) ((frs rs).take n)) = some (rs.take j, (frs (rs.take j)).length) := by
  obtain ⟨j, h1, h2, h3⟩ := frs_take_split rs n hn
  refine ⟨j, h1, h2, ?_, ?_⟩
  · rcases h3 with ⟨h3, _⟩ | ⟨b, h3, h4, _⟩
    · exact .inl h3
    · right
      obtain ⟨hj, e⟩ := List.getElem?_eq_some_iff.1 h3
      rw [List.take_succ_eq_append_getElem hj, frs_append, List.length_append, e, frs_one, Wal.frameB_length]
      exact h4
  · rcases h3 with ⟨h3, h4⟩ | ⟨b, h3, h4, h5⟩
    · rw [h4, h3, List.take_length]
      exact scan_full true rs h
    · have hb : b ∈ rs := List.mem_of_getElem? h3
      have hsm : ∀ x ∈ rs.take j, x.length ≤ 65536 := fun x hx => h x (List.mem_of_mem_take hx)
      generalize hk : n - (frs (rs.take j)).length = k at h5
      have hkl : k < 12 + b.length := by omega
      have hlen : ((frs rs).take n).length = (frs (rs.take j)).length + k := by
        rw [h5, List.length_append, List.length_take, Wal.frameB_length]; omega
      rw [hlen, h5]
      have hge := frs_length_ge (rs.take j)
      have := seqF_frs ((frameB b).take k) (rs.take j) hsm ((frs (rs.take j)).length + k + 1 - (rs.take j).length)
      rw [show (rs.take j).length + ((frs (rs.take j)).length + k + 1 - (rs.take j).length) = (frs (rs.take j)).length + k + 1 by omega] at this
      rw [this, scan_ok]
      have ht : scanS true (seqF ((frs (rs.take j)).length + k + 1 - (rs.take j).length) ((frameB b).take k)) = some ([], 0) := by
        obtain ⟨f, hf⟩ : ∃ f, (frs (rs.take j)).length + k + 1 - (rs.take j).length = f + 1 := ⟨(frs (rs.take j)).length + k - (rs.take j).length, by omega⟩
        rw [hf, seqF]
        split
        · rfl
        · rw [nextB_part b (h b hb) k hkl]
          simp [scanS]
      rw [ht]
      simp

/-- a disk that runs, with no plan -/
structure Runs (D : DiskM) : Prop where
  plan : D.plan = []
  up : D.down = false
theorem Runs.step {D : DiskM} (h : Runs D) : D.step true = (D.tick, 0) := step_plain h.plan h.up
theorem Runs.tick {D : DiskM} (h : Runs D) : Runs D.tick := ⟨h.plan, h.up⟩
theorem Runs.read {D : DiskM} (h : Runs D) {s : List UInt8} (hs : dnameB s = true) {f : FileM} (hf : fileAt D.files s = some f) : D.read s = (D.tick, f.b, 0) := by
  unfold DiskM.read
  rw [hs, h.step, if_neg (by simp), hf]
theorem Runs.trunc {D : DiskM} (h : Runs D) {s : List UInt8} (hs : dnameB s = true) {f : FileM} (hf : fileAt D.files s = some f) (n : Nat) (hn : n ≤ f.b.length) : (D.trunc s (n : Int)).2 = 0 := by
  unfold DiskM.trunc
  rw [hs, h.step, if_neg (by simp), hf]
  simp only
  rw [if_neg (by omega)]

theorem load_full {D : DiskM} (h : Runs D) {G : LogM} {k : Nat} (hk : k < 1000000000) (hn : G.name = LOG) (hfin : G.fin = (k : Nat)) {f : FileM} (hf : fileAt D.files (fileB LOG (k : Int)) = some f) {rs : List (List UInt8)} (hb : f.b = frs rs) (hs : ∀ b ∈ rs, b.length ≤ 65536) (last : Bool) :
    LogM.load D G (k : Int) last = (D.tick, { G with recs := G.recs ++ rs, parts := G.parts ++ [⟨(k : Int), rs.length, (frs rs).length⟩] }, 0) := by
  unfold LogM.load
  rw [hn, h.read (dn_file k hk) hf, if_neg (by simp), if_neg (by simp [hfin])]
  simp only
  rw [hb, scan_full last rs hs]
  simp only
  rw [if_neg (by omega)]
theorem load_cut {D : DiskM} (h : Runs D) {G : LogM} {k : Nat} (hk : k < 1000000000) (hn : G.name = LOG) (hfin : G.fin = (k : Nat)) {f : FileM} (hf : fileAt D.files (fileB LOG (k : Int)) = some f) {rs : List (List UInt8)} {n : Nat} (hnl : n ≤ (frs rs).length) (hb : f.b = (frs rs).take n) (hs : ∀ b ∈ rs, b.length ≤ 65536) :
    ∃ j D' P', j ≤ rs.length ∧ (frs (rs.take j)).length ≤ n ∧ (j = rs.length ∨ n < (frs (rs.take (j + 1))).length) ∧ LogM.load D G (k : Int) true = (D', { G with recs := G.recs ++ rs.take j, parts := P' }, 0) := by
  obtain ⟨j, h1, h2, h3, h4⟩ := scan_cut rs hs n hnl
  have hlen : ((frs rs).take n).length = n := by rw [List.length_take]; omega
  unfold LogM.load
  rw [hn, h.read (dn_file k hk) hf, if_neg (by simp), if_neg (by simp [hfin])]
  simp only
  rw [hb, h4]
  simp only
  by_cases hm : (frs (rs.take j)).length < ((frs rs).take n).length
  · rw [if_pos hm, h.tick.trunc (dn_file k hk) (f := f) hf _ (by rw [hb]; omega)]
    exact ⟨j, _, _, h1, h2, h3, rfl⟩
  · rw [if_neg hm]
    exact ⟨j, _, _, h1, h2, h3, rfl⟩

/-- all files but the last ones are loaded -/
theorem openAll_full (tail : List Int) (ht : tail ≠ []) : ∀ (gs : List Grp) (k i : Nat) (D : DiskM) (G : LogM), Runs D → G.name = LOG → G.fin = (k : Nat) → G.first = 0 → (i = 0 → k = 0) → (∀ g ∈ gs, g.1 ≠ [] ) → (∀ g ∈ gs, ∀ b ∈ g.1, b.length ≤ 65536) → k + (flat gs).length < 1000000000 →
    (∀ pre g post, gs = pre ++ g :: post → ∃ f, fileAt D.files (fileB LOG (((k + (flat pre).length : Nat)) : Int)) = some f ∧ f.b = frs g.1) →
    ∃ D' P' i', Runs D' ∧ D'.files = D.files ∧ (i' = 0 → gs = [] ∧ i = 0) ∧ openAll ((ks k gs).map (fun (j : Nat) => (j : Int)) ++ tail) i D G = openAll tail i' D' { G with recs := G.recs ++ flat gs, parts := P' }
  | [], k, i, D, G, hR, _, _, _, _, _, _, _, _ => ⟨D, G.parts, i, hR, rfl, fun h => ⟨rfl, h⟩, by simp [ks, flat]⟩
  | g :: r, k, i, D, G, hR, hn, hfin, hfst, hi, hne, hsm, hlt, hat => by
    obtain ⟨f, hf, hb⟩ := hat [] g r rfl
    rw [show k + (flat ([] : List Grp)).length = k by simp [flat]] at hf
    have hg0 : (if i = 0 then { G with first := ((k : Nat) : Int) } else G) = G := by
      split
      · rename_i h; rw [hi h]
        have : ((0 : Nat) : Int) = G.first := by rw [hfst]; rfl
        rw [this]
      · rfl
    have hfl : flat (g :: r) = g.1 ++ flat r := by simp [flat]
    rw [hfl, List.length_append] at hlt
    have hl := load_full hR (k := k) (by omega) hn hfin hf hb (hsm g (by simp))
    obtain ⟨D', P', i', h1, h2, h3, h4⟩ := openAll_full tail ht r (k + g.1.length) (i + 1) D.tick { G with recs := G.recs ++ g.1, parts := G.parts ++ [⟨(k : Int), g.1.length, (frs g.1).length⟩] }
      hR.tick hn (by simp only [LogM.fin, List.length_append] at hfin ⊢; omega) hfst (by omega) (fun x hx => hne x (by simp [hx])) (fun x hx => hsm x (by simp [hx])) (by omega)
      (fun pre x post e => by
        obtain ⟨f', h5, h6⟩ := hat (g :: pre) x post (by rw [e]; rfl)
        refine ⟨f', ?_, h6⟩
        rw [show k + (flat (g :: pre)).length = k + g.1.length + (flat pre).length by simp [flat]; omega] at h5
        exact h5)
    refine ⟨D', P', i', h1, h2, fun h => absurd (h3 h).2 (by omega), ?_⟩
    rw [ks, List.map_cons, List.cons_append, openAll, hg0, hl]
    rw [if_neg (by simp), h4, hfl]
    simp only [List.append_assoc]

theorem filterMap_some {α β : Type} (f : α → Option β) (g : α → β) : ∀ (l : List α), (∀ x ∈ l, f x = some (g x)) → l.filterMap f = l.map g
  | [], _ => rfl
  | x :: r, h => by
    rw [List.filterMap_cons, h x (by simp), List.map_cons, filterMap_some f g r fun y hy => h y (by simp [hy])]
theorem numbers_ks {names : List (List UInt8)} {gs : List Grp} (hne : ∀ g ∈ gs, g.1 ≠ []) (hlt : (flat gs).length < 1000000000) (hp : names.Perm ((ks 0 gs).map fun (j : Nat) => fileB LOG (j : Int))) :
    numbersB LOG names = (ks 0 gs).map fun (j : Nat) => (j : Int) := by
  unfold numbersB
  have h1 := hp.filterMap (numOf LOG)
  have h2 : ((ks 0 gs).map fun (j : Nat) => fileB LOG (j : Int)).filterMap (numOf LOG) = (ks 0 gs).map fun (j : Nat) => (j : Int) := by
    rw [List.filterMap_map]
    refine filterMap_some _ _ _ fun j hj => ?_
    have := ks_range 0 gs hne j hj
    exact numOf_file j (by omega)
  rw [h2] at h1
  refine ((List.mergeSort_perm _ _).trans h1).eq_of_pairwise (le := fun a b : Int => a ≤ b) (fun a b _ _ h h' => Int.le_antisymm h h') ?_ ?_
  · have := List.pairwise_mergeSort (le := fun x y : Int => decide (x ≤ y)) (fun a b c h h' => by simp only [decide_eq_true_eq] at *; omega) (fun a b => by simp only [Bool.or_eq_true, decide_eq_true_eq]; omega) (names.filterMap (numOf LOG))
    exact this.imp (by intro a b h; simpa using h)
  · rw [List.pairwise_map]
    exact (ks_sorted 0 gs hne).imp (by intro a b h; omega)
end Go.Proofs.YtjpcmgoajdjkgaaGreatDoor
