/- the cells of a block that has been read. -/
import Derived.Test.YtildkoabfdfjlaaRdr
set_option linter.all false
namespace Go.Proofs.Ytildkoabfdfjlaa
open Go.RowKit
theorem lay_in {cur : Array Value} {o k : Nat} {l : List UInt8} (h : o + l.length ≤ cur.size) (h1 : o ≤ k) (h2 : k < o + l.length) : (lay cur o l)[k]? = (bytesV l)[k - o]? := by
  have ho : (cur.toList.take o).length = o := by simp; omega
  have hbl := bytesV_length l
  simp only [lay, List.getElem?_toArray]
  rw [List.getElem?_append_left (by simp; omega), List.getElem?_append_right (by omega), ho]
theorem lay_out {cur : Array Value} {o k : Nat} {l : List UInt8} (h : o + l.length ≤ cur.size) (hk : k < o ∨ o + l.length ≤ k) : (lay cur o l)[k]? = cur[k]? := by
  have ho : (cur.toList.take o).length = o := by simp; omega
  have hbl := bytesV_length l
  simp only [lay, List.getElem?_toArray]
  rcases hk with hk | hk
  · rw [List.getElem?_append_left (by simp; omega), List.getElem?_append_left (by omega), List.getElem?_take_of_lt hk]; simp
  · rw [List.getElem?_append_right (by rw [List.length_append, ho, hbl]; exact hk), List.length_append, ho, hbl, List.getElem?_drop]
    rw [show o + l.length + (k - (o + l.length)) = k by omega]; simp
theorem lay_sz {cur : Array Value} {o : Nat} {l : List UInt8} (h : o + l.length ≤ cur.size) : (lay cur o l).size = cur.size := by
  simp [lay, bytesV]; omega

theorem blk_fin (cur : Array Value) (hs : cur.size = 68) (h' pr' rd' v : Value) (p s : List UInt8) (hp : p.length = 32) (hs' : s.length = 32) :
    (((lay (lay (cur.setIfInBounds 0 h') 1 p) 33 s).setIfInBounds 65 pr').setIfInBounds 66 rd').setIfInBounds 67 v = (h' :: (bytesV p ++ (bytesV s ++ [pr', rd', v]))).toArray := by
  have z1 : (cur.setIfInBounds 0 h').size = 68 := by simpa using hs
  have z2 : (lay (cur.setIfInBounds 0 h') 1 p).size = 68 := by rw [lay_sz (by omega)]; exact z1
  have z3 : (lay (lay (cur.setIfInBounds 0 h') 1 p) 33 s).size = 68 := by rw [lay_sz (by omega)]; exact z2
  have hbp := bytesV_length p
  have hbs := bytesV_length s
  apply Array.ext_getElem?
  intro i
  rw [show (h' :: (bytesV p ++ (bytesV s ++ [pr', rd', v]))).toArray[i]? = (h' :: (bytesV p ++ (bytesV s ++ [pr', rd', v])))[i]? from List.getElem?_toArray ..]
  by_cases h68 : 68 ≤ i
  · rw [Array.getElem?_eq_none (by simp [z3]; omega), List.getElem?_eq_none (by simp [hbp, hbs, hp, hs']; omega)]
  by_cases h67 : i = 67
  · subst h67
    rw [Array.getElem?_setIfInBounds_self, if_pos (by simp [z3])]
    rw [List.getElem?_cons_succ, List.getElem?_append_right (by omega), List.getElem?_append_right (by omega), hbp, hbs, hp, hs']; rfl
  rw [Array.getElem?_setIfInBounds_ne (by omega)]
  by_cases h66 : i = 66
  · subst h66
    rw [Array.getElem?_setIfInBounds_self, if_pos (by simp [z3])]
    rw [List.getElem?_cons_succ, List.getElem?_append_right (by omega), List.getElem?_append_right (by omega), hbp, hbs, hp, hs']; rfl
  rw [Array.getElem?_setIfInBounds_ne (by omega)]
  by_cases h65 : i = 65
  · subst h65
    rw [Array.getElem?_setIfInBounds_self, if_pos (by simp [z3])]
    rw [List.getElem?_cons_succ, List.getElem?_append_right (by omega), List.getElem?_append_right (by omega), hbp, hbs, hp, hs']; rfl
  rw [Array.getElem?_setIfInBounds_ne (by omega)]
  by_cases h33 : 33 ≤ i
  · rw [lay_in (by omega) h33 (by omega)]
    obtain ⟨j, rfl⟩ : ∃ j, i = j + 33 := ⟨i - 33, by omega⟩
    rw [show j + 33 = (j + 32) + 1 by omega, List.getElem?_cons_succ, List.getElem?_append_right (by omega), hbp, hp, List.getElem?_append_left (by omega)]
    congr 1
  rw [lay_out (by omega) (by omega)]
  by_cases h1 : 1 ≤ i
  · rw [lay_in (by omega) h1 (by omega)]
    obtain ⟨j, rfl⟩ : ∃ j, i = j + 1 := ⟨i - 1, by omega⟩
    rw [List.getElem?_cons_succ, List.getElem?_append_left (by omega)]
    rfl
  obtain rfl : i = 0 := by omega
  rw [lay_out (by omega) (by omega), Array.getElem?_setIfInBounds_self, if_pos (by omega)]
  rfl
end Go.Proofs.Ytildkoabfdfjlaa
