/- Layer 3: the reference's 'one' at every text that is not empty. (Printed by gen_c2.py.) -/
import Derived.Test.YtcfgpmmclijonaaGreatDoorRuC
namespace Go.Proofs.YtcfgpmmclijonaaGreatDoor
set_option linter.unusedVariables false
set_option linter.unusedSimpArgs false
set_option maxRecDepth 100000
open Go.RowKit Go.Lib

theorem get!_lt (s : ByteArray) (k : Nat) (h : k < s.size) : s[k] = s.get! k := by
  cases s with
  | mk d => exact (getElem!_pos d k h).symm
def OneP (D : Nat × Nat) (w : World) : Ending → World → Prop := fun e w' => e = .returned (.tuple #[.int .i32 (D.1 : Int), .int .i64 (D.2 : Int), .bool (brk D)]) ∧ w = w'
theorem one_all (s : ByteArray) (w : World) (x0 x1 x2 x3 : UInt8) (hz : 0 < s.size) (h0 : s[0] = x0) (h1 : (h : 1 < s.size) → s[1] = x1) (h2 : (h : 2 < s.size) → s[2] = x2) (h3 : (h : 3 < s.size) → s[3] = x3) :
    Calls Tryz.prog 95 #[.string s] w (OneP (decodeN s.size x0.toNat x1.toNat x2.toNat x3.toNat) w) := by
  have l0 := x0.toNat_lt; have l1 := x1.toNat_lt; have l2 := x2.toNat_lt; have l3 := x3.toNat_lt
  by_cases k1 : x0.toNat < 128
  · skip
    exact one_A s w x0 x1 x2 x3 hz h0 h1 h2 h3 (by omega)
  · skip
    by_cases k5 : x0.toNat < 194
    · skip
      exact one_B1 s w x0 x1 x2 x3 hz h0 h1 h2 h3 (by omega) (by omega)
    · skip
      by_cases k9 : 244 < x0.toNat
      · skip
        exact one_B2 s w x0 x1 x2 x3 hz h0 h1 h2 h3 (by omega)
      · skip
        by_cases k13 : x0.toNat ≤ 223
        · skip
          by_cases k15 : s.size < 2
          · skip
            exact one_C0 s w x0 x1 x2 x3 hz h0 h1 h2 h3 (by omega) (by omega) (by omega)
          · skip
            by_cases k19 : x1.toNat < 128
            · skip
              exact one_C1 s w x0 x1 x2 x3 hz h0 h1 h2 h3 (by omega) (by omega) (by omega) (by omega)
            · skip
              by_cases k23 : 191 < x1.toNat
              · skip
                exact one_C2 s w x0 x1 x2 x3 hz h0 h1 h2 h3 (by omega) (by omega) (by omega) (by omega) (by omega)
              · skip
                exact one_C3 s w x0 x1 x2 x3 hz h0 h1 h2 h3 (by omega) (by omega) (by omega) (by omega) (by omega)
        · skip
          by_cases k29 : x0.toNat ≤ 239
          · skip
            by_cases k31 : s.size < 3
            · skip
              exact one_D0 s w x0 x1 x2 x3 hz h0 h1 h2 h3 (by omega) (by omega) (by omega)
            · skip
              by_cases k35 : x1.toNat < 128
              · skip
                exact one_D1 s w x0 x1 x2 x3 hz h0 h1 h2 h3 (by omega) (by omega) (by omega) (by omega)
              · skip
                by_cases k39 : 191 < x1.toNat
                · skip
                  exact one_D2 s w x0 x1 x2 x3 hz h0 h1 h2 h3 (by omega) (by omega) (by omega) (by omega) (by omega)
                · skip
                  by_cases k43 : x2.toNat < 128
                  · skip
                    exact one_D3 s w x0 x1 x2 x3 hz h0 h1 h2 h3 (by omega) (by omega) (by omega) (by omega) (by omega) (by omega)
                  · skip
                    by_cases k47 : 191 < x2.toNat
                    · skip
                      exact one_D4 s w x0 x1 x2 x3 hz h0 h1 h2 h3 (by omega) (by omega) (by omega) (by omega) (by omega) (by omega) (by omega)
                    · skip
                      by_cases k51 : x0.toNat % 16 * 4096 + x1.toNat % 64 * 64 + x2.toNat % 64 < 2048
                      · skip
                        exact one_D5 s w x0 x1 x2 x3 hz h0 h1 h2 h3 (by omega) (by omega) (by omega) (by omega) (by omega) (by omega) (by omega) (by omega)
                      · skip
                        by_cases k55 : x0.toNat % 16 * 4096 + x1.toNat % 64 * 64 + x2.toNat % 64 < 55296
                        · skip
                          exact one_D7 s w x0 x1 x2 x3 hz h0 h1 h2 h3 (by omega) (by omega) (by omega) (by omega) (by omega) (by omega) (by omega) (by omega) (by omega)
                        · skip
                          by_cases k59 : x0.toNat % 16 * 4096 + x1.toNat % 64 * 64 + x2.toNat % 64 ≤ 57343
                          · skip
                            exact one_D6 s w x0 x1 x2 x3 hz h0 h1 h2 h3 (by omega) (by omega) (by omega) (by omega) (by omega) (by omega) (by omega) (by omega) (by omega) (by omega)
                          · skip
                            exact one_D8 s w x0 x1 x2 x3 hz h0 h1 h2 h3 (by omega) (by omega) (by omega) (by omega) (by omega) (by omega) (by omega) (by omega) (by omega) (by omega)
          · skip
            by_cases k65 : s.size < 4
            · skip
              exact one_E0 s w x0 x1 x2 x3 hz h0 h1 h2 h3 (by omega) (by omega) (by omega)
            · skip
              by_cases k69 : x1.toNat < 128
              · skip
                exact one_E1 s w x0 x1 x2 x3 hz h0 h1 h2 h3 (by omega) (by omega) (by omega) (by omega)
              · skip
                by_cases k73 : 191 < x1.toNat
                · skip
                  exact one_E2 s w x0 x1 x2 x3 hz h0 h1 h2 h3 (by omega) (by omega) (by omega) (by omega) (by omega)
                · skip
                  by_cases k77 : x2.toNat < 128
                  · skip
                    exact one_E3 s w x0 x1 x2 x3 hz h0 h1 h2 h3 (by omega) (by omega) (by omega) (by omega) (by omega) (by omega)
                  · skip
                    by_cases k81 : 191 < x2.toNat
                    · skip
                      exact one_E4 s w x0 x1 x2 x3 hz h0 h1 h2 h3 (by omega) (by omega) (by omega) (by omega) (by omega) (by omega) (by omega)
                    · skip
                      by_cases k85 : x3.toNat < 128
                      · skip
                        exact one_E5 s w x0 x1 x2 x3 hz h0 h1 h2 h3 (by omega) (by omega) (by omega) (by omega) (by omega) (by omega) (by omega) (by omega)
                      · skip
                        by_cases k89 : 191 < x3.toNat
                        · skip
                          exact one_E6 s w x0 x1 x2 x3 hz h0 h1 h2 h3 (by omega) (by omega) (by omega) (by omega) (by omega) (by omega) (by omega) (by omega) (by omega)
                        · skip
                          by_cases k93 : x0.toNat % 8 * 262144 + x1.toNat % 64 * 4096 + x2.toNat % 64 * 64 + x3.toNat % 64 < 65536
                          · skip
                            exact one_E7 s w x0 x1 x2 x3 hz h0 h1 h2 h3 (by omega) (by omega) (by omega) (by omega) (by omega) (by omega) (by omega) (by omega) (by omega) (by omega)
                          · skip
                            by_cases k97 : x0.toNat % 8 * 262144 + x1.toNat % 64 * 4096 + x2.toNat % 64 * 64 + x3.toNat % 64 ≤ 1114111
                            · skip
                              exact one_E9 s w x0 x1 x2 x3 hz h0 h1 h2 h3 (by omega) (by omega) (by omega) (by omega) (by omega) (by omega) (by omega) (by omega) (by omega) (by omega) (by omega)
                            · skip
                              exact one_E8 s w x0 x1 x2 x3 hz h0 h1 h2 h3 (by omega) (by omega) (by omega) (by omega) (by omega) (by omega) (by omega) (by omega) (by omega) (by omega) (by omega)
/-- The first rune of what is left of a text. -/
theorem one_at (s : ByteArray) (i : Nat) (hi : i < s.size) (w : World) : Calls Tryz.prog 95 #[.string (s.extract i s.size)] w fun e w' => e = .returned (.tuple #[.int .i32 (rn (lft s.data.toList i) : Int), .int .i64 (wd (lft s.data.toList i) : Int), .bool (brk (decodeL (lft s.data.toList i)))]) ∧ w = w' := by
  have hz : 0 < (s.extract i s.size).size := by simp; omega
  have hd : (s.extract i s.size).data.toList = lft s.data.toList i := by
    simp only [lft, ByteArray.data_extract, Array.toList_extract]
    rw [List.extract_eq_take_drop]
    rw [List.take_of_length_le (by simp)]
  generalize s.extract i s.size = t at *
  have q := one_all t w (t[0]) (t.get! 1) (t.get! 2) (t.get! 3) hz rfl (fun h => get!_lt t 1 h) (fun h => get!_lt t 2 h) (fun h => get!_lt t 3 h)
  have e : decodeN t.size (t[0]).toNat (t.get! 1).toNat (t.get! 2).toNat (t.get! 3).toNat = decodeL (lft s.data.toList i) := by
    rw [← hd, get!_lt t 0 hz]
    have e1 := decode_drop t 0
    rw [decode_at, Nat.sub_zero, Nat.zero_add, Nat.zero_add, Nat.zero_add] at e1
    simpa using e1
  rw [e] at q
  exact q
end Go.Proofs.YtcfgpmmclijonaaGreatDoor
