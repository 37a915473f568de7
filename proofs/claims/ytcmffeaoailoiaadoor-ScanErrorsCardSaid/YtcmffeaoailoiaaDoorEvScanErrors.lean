/- What the call of ScanErrors yields, whatever byte and number come in. -/
import Derived.Test.YtcmffeaoailoiaaDoorCScanErrors0
import Derived.Test.YtcmffeaoailoiaaDoorCScanErrors1
import Derived.Test.YtcmffeaoailoiaaDoorCScanErrors2
import Derived.Test.YtcmffeaoailoiaaDoorCScanErrors3
import Derived.Test.YtcmffeaoailoiaaDoorCScanErrors4
import Derived.Test.YtcmffeaoailoiaaDoorCScanErrors5
import Derived.Test.YtcmffeaoailoiaaDoorCScanErrors6
import Derived.Test.YtcmffeaoailoiaaDoorCScanErrors7
import Derived.Test.YtcmffeaoailoiaaDoorCScanErrors8
import Derived.Test.YtcmffeaoailoiaaDoorCScanErrors9
import Derived.Test.YtcmffeaoailoiaaDoorCScanErrors10
import Derived.Test.YtcmffeaoailoiaaDoorCScanErrors11
import Derived.Test.YtcmffeaoailoiaaDoorCScanErrors12
import Derived.Test.YtcmffeaoailoiaaDoorCScanErrors13
import Derived.Test.YtcmffeaoailoiaaDoorCScanErrors14
import Derived.Test.YtcmffeaoailoiaaDoorCScanErrors15
namespace Go.Proofs.YtcmffeaoailoiaaDoor.E
open Go Go.EV Go.RowKit Go.Proofs
set_option linter.unusedVariables false
set_option maxRecDepth 100000
theorem int_range {k : IntKind} {n : Int} (h : (Lit.int k n).wf = true) : k.min ≤ n ∧ n ≤ k.max := by
  simpa [Lit.wf] using h
def C1 (c : Nat) : Prop := Contract Tryd.prog (4, [.lit (.int .u8 (Int.ofNat c)), .any .i64], List.replicate 9 (.lit (.bool true)))
theorem upTo0 : ∀ c, c < 0 → C1 c := fun c h => absurd h (Nat.not_lt_zero c)
theorem upToS {n : Nat} (h : ∀ c, c < n → C1 c) (hn : C1 n) : ∀ c, c < n + 1 → C1 c := fun c hc => by
  by_cases e : c = n
  · rw [e]; exact hn
  · exact h c (by omega)
theorem all16 : ∀ c, c < 16 → C1 c := upToS (upToS (upToS (upToS (upToS (upToS (upToS (upToS (upToS (upToS (upToS (upToS (upToS (upToS (upToS (upToS (upTo0) scanErrors_0) scanErrors_1) scanErrors_2) scanErrors_3) scanErrors_4) scanErrors_5) scanErrors_6) scanErrors_7) scanErrors_8) scanErrors_9) scanErrors_10) scanErrors_11) scanErrors_12) scanErrors_13) scanErrors_14) scanErrors_15
theorem all32 : ∀ c, c < 32 → C1 c := upToS (upToS (upToS (upToS (upToS (upToS (upToS (upToS (upToS (upToS (upToS (upToS (upToS (upToS (upToS (upToS (all16) scanErrors_16) scanErrors_17) scanErrors_18) scanErrors_19) scanErrors_20) scanErrors_21) scanErrors_22) scanErrors_23) scanErrors_24) scanErrors_25) scanErrors_26) scanErrors_27) scanErrors_28) scanErrors_29) scanErrors_30) scanErrors_31
theorem all48 : ∀ c, c < 48 → C1 c := upToS (upToS (upToS (upToS (upToS (upToS (upToS (upToS (upToS (upToS (upToS (upToS (upToS (upToS (upToS (upToS (all32) scanErrors_32) scanErrors_33) scanErrors_34) scanErrors_35) scanErrors_36) scanErrors_37) scanErrors_38) scanErrors_39) scanErrors_40) scanErrors_41) scanErrors_42) scanErrors_43) scanErrors_44) scanErrors_45) scanErrors_46) scanErrors_47
theorem all64 : ∀ c, c < 64 → C1 c := upToS (upToS (upToS (upToS (upToS (upToS (upToS (upToS (upToS (upToS (upToS (upToS (upToS (upToS (upToS (upToS (all48) scanErrors_48) scanErrors_49) scanErrors_50) scanErrors_51) scanErrors_52) scanErrors_53) scanErrors_54) scanErrors_55) scanErrors_56) scanErrors_57) scanErrors_58) scanErrors_59) scanErrors_60) scanErrors_61) scanErrors_62) scanErrors_63
theorem all80 : ∀ c, c < 80 → C1 c := upToS (upToS (upToS (upToS (upToS (upToS (upToS (upToS (upToS (upToS (upToS (upToS (upToS (upToS (upToS (upToS (all64) scanErrors_64) scanErrors_65) scanErrors_66) scanErrors_67) scanErrors_68) scanErrors_69) scanErrors_70) scanErrors_71) scanErrors_72) scanErrors_73) scanErrors_74) scanErrors_75) scanErrors_76) scanErrors_77) scanErrors_78) scanErrors_79
theorem all96 : ∀ c, c < 96 → C1 c := upToS (upToS (upToS (upToS (upToS (upToS (upToS (upToS (upToS (upToS (upToS (upToS (upToS (upToS (upToS (upToS (all80) scanErrors_80) scanErrors_81) scanErrors_82) scanErrors_83) scanErrors_84) scanErrors_85) scanErrors_86) scanErrors_87) scanErrors_88) scanErrors_89) scanErrors_90) scanErrors_91) scanErrors_92) scanErrors_93) scanErrors_94) scanErrors_95
theorem all112 : ∀ c, c < 112 → C1 c := upToS (upToS (upToS (upToS (upToS (upToS (upToS (upToS (upToS (upToS (upToS (upToS (upToS (upToS (upToS (upToS (all96) scanErrors_96) scanErrors_97) scanErrors_98) scanErrors_99) scanErrors_100) scanErrors_101) scanErrors_102) scanErrors_103) scanErrors_104) scanErrors_105) scanErrors_106) scanErrors_107) scanErrors_108) scanErrors_109) scanErrors_110) scanErrors_111
theorem all128 : ∀ c, c < 128 → C1 c := upToS (upToS (upToS (upToS (upToS (upToS (upToS (upToS (upToS (upToS (upToS (upToS (upToS (upToS (upToS (upToS (all112) scanErrors_112) scanErrors_113) scanErrors_114) scanErrors_115) scanErrors_116) scanErrors_117) scanErrors_118) scanErrors_119) scanErrors_120) scanErrors_121) scanErrors_122) scanErrors_123) scanErrors_124) scanErrors_125) scanErrors_126) scanErrors_127
theorem all144 : ∀ c, c < 144 → C1 c := upToS (upToS (upToS (upToS (upToS (upToS (upToS (upToS (upToS (upToS (upToS (upToS (upToS (upToS (upToS (upToS (all128) scanErrors_128) scanErrors_129) scanErrors_130) scanErrors_131) scanErrors_132) scanErrors_133) scanErrors_134) scanErrors_135) scanErrors_136) scanErrors_137) scanErrors_138) scanErrors_139) scanErrors_140) scanErrors_141) scanErrors_142) scanErrors_143
theorem all160 : ∀ c, c < 160 → C1 c := upToS (upToS (upToS (upToS (upToS (upToS (upToS (upToS (upToS (upToS (upToS (upToS (upToS (upToS (upToS (upToS (all144) scanErrors_144) scanErrors_145) scanErrors_146) scanErrors_147) scanErrors_148) scanErrors_149) scanErrors_150) scanErrors_151) scanErrors_152) scanErrors_153) scanErrors_154) scanErrors_155) scanErrors_156) scanErrors_157) scanErrors_158) scanErrors_159
theorem all176 : ∀ c, c < 176 → C1 c := upToS (upToS (upToS (upToS (upToS (upToS (upToS (upToS (upToS (upToS (upToS (upToS (upToS (upToS (upToS (upToS (all160) scanErrors_160) scanErrors_161) scanErrors_162) scanErrors_163) scanErrors_164) scanErrors_165) scanErrors_166) scanErrors_167) scanErrors_168) scanErrors_169) scanErrors_170) scanErrors_171) scanErrors_172) scanErrors_173) scanErrors_174) scanErrors_175
theorem all192 : ∀ c, c < 192 → C1 c := upToS (upToS (upToS (upToS (upToS (upToS (upToS (upToS (upToS (upToS (upToS (upToS (upToS (upToS (upToS (upToS (all176) scanErrors_176) scanErrors_177) scanErrors_178) scanErrors_179) scanErrors_180) scanErrors_181) scanErrors_182) scanErrors_183) scanErrors_184) scanErrors_185) scanErrors_186) scanErrors_187) scanErrors_188) scanErrors_189) scanErrors_190) scanErrors_191
theorem all208 : ∀ c, c < 208 → C1 c := upToS (upToS (upToS (upToS (upToS (upToS (upToS (upToS (upToS (upToS (upToS (upToS (upToS (upToS (upToS (upToS (all192) scanErrors_192) scanErrors_193) scanErrors_194) scanErrors_195) scanErrors_196) scanErrors_197) scanErrors_198) scanErrors_199) scanErrors_200) scanErrors_201) scanErrors_202) scanErrors_203) scanErrors_204) scanErrors_205) scanErrors_206) scanErrors_207
theorem all224 : ∀ c, c < 224 → C1 c := upToS (upToS (upToS (upToS (upToS (upToS (upToS (upToS (upToS (upToS (upToS (upToS (upToS (upToS (upToS (upToS (all208) scanErrors_208) scanErrors_209) scanErrors_210) scanErrors_211) scanErrors_212) scanErrors_213) scanErrors_214) scanErrors_215) scanErrors_216) scanErrors_217) scanErrors_218) scanErrors_219) scanErrors_220) scanErrors_221) scanErrors_222) scanErrors_223
theorem all240 : ∀ c, c < 240 → C1 c := upToS (upToS (upToS (upToS (upToS (upToS (upToS (upToS (upToS (upToS (upToS (upToS (upToS (upToS (upToS (upToS (all224) scanErrors_224) scanErrors_225) scanErrors_226) scanErrors_227) scanErrors_228) scanErrors_229) scanErrors_230) scanErrors_231) scanErrors_232) scanErrors_233) scanErrors_234) scanErrors_235) scanErrors_236) scanErrors_237) scanErrors_238) scanErrors_239
theorem all256 : ∀ c, c < 256 → C1 c := upToS (upToS (upToS (upToS (upToS (upToS (upToS (upToS (upToS (upToS (upToS (upToS (upToS (upToS (upToS (upToS (all240) scanErrors_240) scanErrors_241) scanErrors_242) scanErrors_243) scanErrors_244) scanErrors_245) scanErrors_246) scanErrors_247) scanErrors_248) scanErrors_249) scanErrors_250) scanErrors_251) scanErrors_252) scanErrors_253) scanErrors_254) scanErrors_255
theorem scanErrors_in (a b : Int) (ha : IntKind.min .u8 ≤ a ∧ a ≤ IntKind.max .u8) (hb : IntKind.min .i64 ≤ b ∧ b ≤ IntKind.max .i64) : (IntKind.min .u8 ≤ a ∧ a ≤ IntKind.max .u8) ∧ (IntKind.min .i64 ≤ b ∧ b ≤ IntKind.max .i64) := ⟨ha, hb⟩
theorem scanErrors.calls (a b : Int) {I : Addr → Option Value} {W : World} (_ : ∀ a v, I a = some v → W.cell? a = some v) (h : (IntKind.min .u8 ≤ a ∧ a ≤ IntKind.max .u8) ∧ (IntKind.min .i64 ≤ b ∧ b ≤ IntKind.max .i64)) :
    Calls Tryd.prog 4 #[.int .u8 a, .int .i64 b] W (fun e W' => e = .returned (.bool true) ∧ Below W.heap.size W W') := by
  obtain ⟨ha, hb⟩ := h
  have ha' : 0 ≤ a ∧ a ≤ 255 := ha
  obtain ⟨k, rfl⟩ : ∃ k : Nat, a = Int.ofNat k := ⟨a.toNat, by simp only [Int.ofNat_eq_natCast]; omega⟩
  have hk : k < 256 := by have := ha'.2; simp only [Int.ofNat_eq_natCast] at this; omega
  have hC := all256 k hk
  have hD : Dens C0 [.lit (.int .u8 (Int.ofNat k)), .any .i64] [.int .u8 (Int.ofNat k), .int .i64 b] := Dens.cons (.lit _) (Dens.cons (.any hb) (Dens.nil C0))
  exact (hC C0 W _ hD).mono fun e W' he => by
    obtain ⟨d, hd, v, rfl, hv, hB⟩ := he
    obtain rfl := List.eq_of_mem_replicate hd
    have := hv C0
    cases this
    exact ⟨rfl, hB⟩
end Go.Proofs.YtcmffeaoailoiaaDoor.E
