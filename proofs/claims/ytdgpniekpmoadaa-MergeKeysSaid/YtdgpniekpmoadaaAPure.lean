/- The bytes of a key: how long they are, what is read out of them, and how they are ordered. -/
import Derived.Test.YtdgpniekpmoadaaALight
import Derived.Lib.Strings
import Derived.Lib.SmallJoins
namespace Go.Proofs.Ytdgpniekpmoadaa.A
open Go.Proofs.YtdgpniekpmoadaaW.PrintWords

def numL : List UInt8 → Nat
  | [] => 0
  | a :: x => a.toNat * 256 ^ x.length + numL x
theorem numL_lt : ∀ x : List UInt8, numL x < 256 ^ x.length
  | [] => by simp [numL]
  | a :: x => by
    have h := numL_lt x
    have ha : a.toNat < 256 := a.toNat_lt
    have : a.toNat * 256 ^ x.length + 256 ^ x.length ≤ 256 * 256 ^ x.length := by
      rw [← Nat.succ_mul]; exact Nat.mul_le_mul_right _ ha
    rw [numL, List.length_cons, Nat.pow_succ, Nat.mul_comm (256 ^ x.length)]
    omega
theorem less_num : ∀ x y : List UInt8, x.length = y.length → (Op.bytesLess x y = decide (numL x < numL y)) ∧ (numL x = numL y → x = y)
  | [], [], _ => by simp [Op.bytesLess, numL]
  | a :: x, b :: y, h => by
    have hl : x.length = y.length := by simpa using h
    obtain ⟨h1, h2⟩ := less_num x y hl
    have hx := numL_lt x
    have hy := numL_lt y
    have hP : 0 < 256 ^ y.length := Nat.pow_pos (by decide)
    rw [hl] at hx
    simp only [numL, hl, Op.bytesLess, h1]
    obtain ⟨P, hPe⟩ : ∃ P, 256 ^ y.length = P := ⟨_, rfl⟩
    rw [hPe] at hx hy hP ⊢
    rcases Nat.lt_trichotomy a.toNat b.toNat with hab | hab | hab
    · have hlt : a < b := UInt8.lt_iff_toNat_lt.2 hab
      have hm : a.toNat * P + P ≤ b.toNat * P := by rw [← Nat.succ_mul]; exact Nat.mul_le_mul_right _ hab
      refine ⟨?_, fun he => by omega⟩
      simp [hlt]; omega
    · have he : a = b := UInt8.toNat_inj.1 hab
      subst he
      refine ⟨by simp, fun hn => ?_⟩
      rw [h2 (by omega)]
    · have hlt : ¬ a < b := fun h => by have := UInt8.lt_iff_toNat_lt.1 h; omega
      have hne : ¬ a = b := fun h => by subst h; omega
      have hm : b.toNat * P + P ≤ a.toNat * P := by rw [← Nat.succ_mul]; exact Nat.mul_le_mul_right _ hab
      refine ⟨?_, fun he => by omega⟩
      rw [show decide (a < b) = false from decide_eq_false hlt, show (a == b) = false from by simpa using hne]
      simp; omega
theorem less_app : ∀ x y u v : List UInt8, x.length = y.length → x ≠ y → Op.bytesLess (x ++ u) (y ++ v) = Op.bytesLess x y
  | [], [], _, _, _, hn => absurd rfl hn
  | a :: x, b :: y, u, v, h, hn => by
    have hl : x.length = y.length := by simpa using h
    simp only [List.cons_append, Op.bytesLess]
    by_cases hab : a = b
    · subst hab
      rw [less_app x y u v hl (fun e => hn (by rw [e]))]
    · have : (a == b) = false := by simpa using hab
      simp [this]

def keyT (pg sl : Int) (key : ByteArray) : ByteArray := strOfNums (head6 pg sl) ++ key.extract 0 (min key.size 34)
theorem slotOf_bd (sl : Int) : 0 ≤ slotOf sl ∧ slotOf sl ≤ 65535 := by unfold slotOf; split <;> split <;> omega
theorem headL (pg sl : Int) : (strOfNums (head6 pg sl)).data.toList = (head6 pg sl).map fun n => UInt8.ofNat n.toNat := rfl
theorem keyT_list (pg sl : Int) (key : ByteArray) : (keyT pg sl key).data.toList = ((head6 pg sl).map fun n => UInt8.ofNat n.toNat) ++ (key.extract 0 (min key.size 34)).data.toList := by
  rw [keyT, Joins.data_append, headL]
theorem keyT_size (pg sl : Int) (key : ByteArray) : (keyT pg sl key).size = 6 + min key.size 34 := by
  rw [keyT, ByteArray.size_append, strOfNums_size, ByteArray.size_extract]
  simp [head6, pageBytes]
theorem u8_nat (n : Int) (h0 : 0 ≤ n) (h1 : n < 256) : (UInt8.ofNat n.toNat).toNat = n.toNat := by
  rw [UInt8.toNat_ofNat']; omega
theorem head_num (pg sl : Int) (h0 : 0 ≤ pg) (h1 : pg ≤ 4294967295) : (numL ((head6 pg sl).map fun n => UInt8.ofNat n.toNat) : Int) = pg * 65536 + slotOf sl := by
  have hs := slotOf_bd sl
  simp only [head6, pageBytes, List.cons_append, List.nil_append, List.map_cons, List.map_nil, numL, List.length_cons, List.length_nil]
  rw [u8_nat (pg / 16777216) (by omega) (by omega), u8_nat (pg / 65536 % 256) (by omega) (by omega), u8_nat (pg / 256 % 256) (by omega) (by omega), u8_nat (pg % 256) (by omega) (by omega), u8_nat (slotOf sl / 256) (by omega) (by omega), u8_nat (slotOf sl % 256) (by omega) (by omega)]
  omega
theorem key_less (pg sl pg' sl' : Int) (key key' : ByteArray) (h0 : 0 ≤ pg) (h1 : pg ≤ 4294967295) (h0' : 0 ≤ pg') (h1' : pg' ≤ 4294967295) (hne : ¬ (pg = pg' ∧ slotOf sl = slotOf sl')) :
    Op.bytesLess (keyT pg sl key).toList (keyT pg' sl' key').toList = decide (pg * 65536 + slotOf sl < pg' * 65536 + slotOf sl') := by
  rw [Lib.toList_data, Lib.toList_data, keyT_list, keyT_list]
  have n1 := head_num pg sl h0 h1
  have n2 := head_num pg' sl' h0' h1'
  have hs := slotOf_bd sl
  have hs' := slotOf_bd sl'
  have hl : ((head6 pg sl).map fun n => UInt8.ofNat n.toNat).length = ((head6 pg' sl').map fun n => UInt8.ofNat n.toNat).length := by simp [head6, pageBytes]
  rw [less_app _ _ _ _ hl (fun e => by rw [e] at n1; omega), (less_num _ _ hl).1]
  rw [decide_eq_decide]
  omega
theorem bt_append_left (s t : ByteArray) (i : Nat) (h : i < s.size) : bt (s ++ t) (i : Int) = bt s (i : Int) := by
  unfold bt
  simp only [Int.toNat_natCast]
  rw [dif_pos h, dif_pos (by rw [ByteArray.size_append]; omega)]
  rw [ByteArray.getElem_append_left h]
theorem bt_nums (l : List Int) (i : Nat) (h : i < l.length) (h0 : 0 ≤ l.getD i 0) (h1 : l.getD i 0 < 256) : bt (strOfNums l) (i : Int) = l.getD i 0 := by
  have hs : i < (strOfNums l).size := by rw [strOfNums_size]; exact h
  unfold bt
  simp only [Int.toNat_natCast]
  rw [dif_pos hs]
  have : (strOfNums l)[i]'hs = UInt8.ofNat (l[i]).toNat := by
    show (strOfNums l).data[i] = _
    simp [strOfNums]
  rw [this]
  rw [List.getD_eq_getElem?_getD, List.getElem?_eq_getElem h] at h0 h1 ⊢
  simp only [Option.getD_some] at h0 h1 ⊢
  rw [u8_nat _ h0 h1]
  omega
theorem bt_key (pg sl : Int) (key : ByteArray) (i : Nat) (h : i < 6) (h0 : 0 ≤ (head6 pg sl).getD i 0) (h1 : (head6 pg sl).getD i 0 < 256) : bt (keyT pg sl key) (i : Int) = (head6 pg sl).getD i 0 := by
  rw [keyT, bt_append_left _ _ _ (by rw [strOfNums_size]; simpa [head6, pageBytes] using h), bt_nums _ _ (by simpa [head6, pageBytes] using h) h0 h1]
theorem key_page (pg sl : Int) (key : ByteArray) (h0 : 0 ≤ pg) (h1 : pg ≤ 4294967295) : pageTo (keyT pg sl key) 4 = pg := by
  have b0 := bt_key pg sl key 0 (by decide) (by simp [head6, pageBytes]; omega) (by simp [head6, pageBytes]; omega)
  have b1 := bt_key pg sl key 1 (by decide) (by simp [head6, pageBytes]; omega) (by simp [head6, pageBytes]; omega)
  have b2 := bt_key pg sl key 2 (by decide) (by simp [head6, pageBytes]; omega) (by simp [head6, pageBytes]; omega)
  have b3 := bt_key pg sl key 3 (by decide) (by simp [head6, pageBytes]; omega) (by simp [head6, pageBytes]; omega)
  simp only [pageTo]
  rw [b0, b1, b2, b3]
  simp [head6, pageBytes]; omega
theorem key_slot (pg sl : Int) (key : ByteArray) : slotRd (keyT pg sl key) = slotOf sl := by
  have hs := slotOf_bd sl
  have b4 : bt (keyT pg sl key) 4 = (head6 pg sl).getD 4 0 := bt_key pg sl key 4 (by decide) (by simp [head6, pageBytes]; omega) (by simp [head6, pageBytes]; omega)
  have b5 : bt (keyT pg sl key) 5 = (head6 pg sl).getD 5 0 := bt_key pg sl key 5 (by decide) (by simp [head6, pageBytes]; omega) (by simp [head6, pageBytes]; omega)
  unfold slotRd
  rw [b4, b5]
  simp [head6, pageBytes]; omega
theorem key_rest (pg sl : Int) (key : ByteArray) : (keyT pg sl key).extract 6 (keyT pg sl key).size = key.extract 0 (min key.size 34) := by
  have h6 : (strOfNums (head6 pg sl)).size = 6 := by rw [strOfNums_size]; simp [head6, pageBytes]
  apply ByteArray.ext
  apply Array.toList_inj.1
  rw [keyT_size, ByteArray.data_extract, Array.toList_extract, keyT_list]
  simp [head6, pageBytes, List.extract_eq_take_drop]
  rw [List.take_of_length_le (by simp)]
end Go.Proofs.Ytdgpniekpmoadaa.A
