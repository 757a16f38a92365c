/- A quick way to reckon with the evaluator: temporaries in a tree of pairs are rows. Printed by a program of this work. -/
import Derived.Test.YtadohhhjpbhhoaaEvfA
namespace Go.Proofs.Ytadohhhjpbhhoaa.EvA
set_option linter.unusedVariables false
set_option maxRecDepth 20000
theorem g0_is (e : E8) : g0 e = nth (toL8 e) 0 := rfl
theorem g1_is (e : E8) : g1 e = nth (toL8 e) 1 := rfl
theorem g2_is (e : E8) : g2 e = nth (toL8 e) 2 := rfl
theorem g3_is (e : E8) : g3 e = nth (toL8 e) 3 := rfl
theorem g4_is (e : E8) : g4 e = nth (toL8 e) 4 := rfl
theorem g5_is (e : E8) : g5 e = nth (toL8 e) 5 := rfl
theorem g6_is (e : E8) : g6 e = nth (toL8 e) 6 := rfl
theorem g7_is (e : E8) : g7 e = nth (toL8 e) 7 := rfl
theorem g8_is (e : E8) : g8 e = nth (toL8 e) 8 := rfl
theorem g9_is (e : E8) : g9 e = nth (toL8 e) 9 := rfl
theorem g10_is (e : E8) : g10 e = nth (toL8 e) 10 := rfl
theorem g11_is (e : E8) : g11 e = nth (toL8 e) 11 := rfl
theorem g12_is (e : E8) : g12 e = nth (toL8 e) 12 := rfl
theorem g13_is (e : E8) : g13 e = nth (toL8 e) 13 := rfl
theorem g14_is (e : E8) : g14 e = nth (toL8 e) 14 := rfl
theorem g15_is (e : E8) : g15 e = nth (toL8 e) 15 := rfl
theorem g16_is (e : E8) : g16 e = nth (toL8 e) 16 := rfl
theorem g17_is (e : E8) : g17 e = nth (toL8 e) 17 := rfl
theorem g18_is (e : E8) : g18 e = nth (toL8 e) 18 := rfl
theorem g19_is (e : E8) : g19 e = nth (toL8 e) 19 := rfl
theorem g20_is (e : E8) : g20 e = nth (toL8 e) 20 := rfl
theorem g21_is (e : E8) : g21 e = nth (toL8 e) 21 := rfl
theorem g22_is (e : E8) : g22 e = nth (toL8 e) 22 := rfl
theorem g23_is (e : E8) : g23 e = nth (toL8 e) 23 := rfl
theorem g24_is (e : E8) : g24 e = nth (toL8 e) 24 := rfl
theorem g25_is (e : E8) : g25 e = nth (toL8 e) 25 := rfl
theorem g26_is (e : E8) : g26 e = nth (toL8 e) 26 := rfl
theorem g27_is (e : E8) : g27 e = nth (toL8 e) 27 := rfl
theorem g28_is (e : E8) : g28 e = nth (toL8 e) 28 := rfl
theorem g29_is (e : E8) : g29 e = nth (toL8 e) 29 := rfl
theorem g30_is (e : E8) : g30 e = nth (toL8 e) 30 := rfl
theorem g31_is (e : E8) : g31 e = nth (toL8 e) 31 := rfl
theorem g32_is (e : E8) : g32 e = nth (toL8 e) 32 := rfl
theorem g33_is (e : E8) : g33 e = nth (toL8 e) 33 := rfl
theorem g34_is (e : E8) : g34 e = nth (toL8 e) 34 := rfl
theorem g35_is (e : E8) : g35 e = nth (toL8 e) 35 := rfl
theorem g36_is (e : E8) : g36 e = nth (toL8 e) 36 := rfl
theorem g37_is (e : E8) : g37 e = nth (toL8 e) 37 := rfl
theorem g38_is (e : E8) : g38 e = nth (toL8 e) 38 := rfl
theorem g39_is (e : E8) : g39 e = nth (toL8 e) 39 := rfl
theorem g40_is (e : E8) : g40 e = nth (toL8 e) 40 := rfl
theorem g41_is (e : E8) : g41 e = nth (toL8 e) 41 := rfl
theorem g42_is (e : E8) : g42 e = nth (toL8 e) 42 := rfl
theorem g43_is (e : E8) : g43 e = nth (toL8 e) 43 := rfl
theorem g44_is (e : E8) : g44 e = nth (toL8 e) 44 := rfl
theorem g45_is (e : E8) : g45 e = nth (toL8 e) 45 := rfl
theorem g46_is (e : E8) : g46 e = nth (toL8 e) 46 := rfl
theorem g47_is (e : E8) : g47 e = nth (toL8 e) 47 := rfl
theorem g48_is (e : E8) : g48 e = nth (toL8 e) 48 := rfl
theorem g49_is (e : E8) : g49 e = nth (toL8 e) 49 := rfl
theorem g50_is (e : E8) : g50 e = nth (toL8 e) 50 := rfl
theorem g51_is (e : E8) : g51 e = nth (toL8 e) 51 := rfl
theorem g52_is (e : E8) : g52 e = nth (toL8 e) 52 := rfl
theorem g53_is (e : E8) : g53 e = nth (toL8 e) 53 := rfl
theorem g54_is (e : E8) : g54 e = nth (toL8 e) 54 := rfl
theorem g55_is (e : E8) : g55 e = nth (toL8 e) 55 := rfl
theorem g56_is (e : E8) : g56 e = nth (toL8 e) 56 := rfl
theorem g57_is (e : E8) : g57 e = nth (toL8 e) 57 := rfl
theorem g58_is (e : E8) : g58 e = nth (toL8 e) 58 := rfl
theorem g59_is (e : E8) : g59 e = nth (toL8 e) 59 := rfl
theorem g60_is (e : E8) : g60 e = nth (toL8 e) 60 := rfl
theorem g61_is (e : E8) : g61 e = nth (toL8 e) 61 := rfl
theorem g62_is (e : E8) : g62 e = nth (toL8 e) 62 := rfl
theorem g63_is (e : E8) : g63 e = nth (toL8 e) 63 := rfl
theorem g64_is (e : E8) : g64 e = nth (toL8 e) 64 := rfl
theorem g65_is (e : E8) : g65 e = nth (toL8 e) 65 := rfl
theorem g66_is (e : E8) : g66 e = nth (toL8 e) 66 := rfl
theorem g67_is (e : E8) : g67 e = nth (toL8 e) 67 := rfl
theorem g68_is (e : E8) : g68 e = nth (toL8 e) 68 := rfl
theorem g69_is (e : E8) : g69 e = nth (toL8 e) 69 := rfl
theorem g70_is (e : E8) : g70 e = nth (toL8 e) 70 := rfl
theorem g71_is (e : E8) : g71 e = nth (toL8 e) 71 := rfl
theorem g72_is (e : E8) : g72 e = nth (toL8 e) 72 := rfl
theorem g73_is (e : E8) : g73 e = nth (toL8 e) 73 := rfl
theorem g74_is (e : E8) : g74 e = nth (toL8 e) 74 := rfl
theorem g75_is (e : E8) : g75 e = nth (toL8 e) 75 := rfl
theorem g76_is (e : E8) : g76 e = nth (toL8 e) 76 := rfl
theorem g77_is (e : E8) : g77 e = nth (toL8 e) 77 := rfl
theorem g78_is (e : E8) : g78 e = nth (toL8 e) 78 := rfl
theorem g79_is (e : E8) : g79 e = nth (toL8 e) 79 := rfl
theorem g80_is (e : E8) : g80 e = nth (toL8 e) 80 := rfl
theorem g81_is (e : E8) : g81 e = nth (toL8 e) 81 := rfl
theorem g82_is (e : E8) : g82 e = nth (toL8 e) 82 := rfl
theorem g83_is (e : E8) : g83 e = nth (toL8 e) 83 := rfl
theorem g84_is (e : E8) : g84 e = nth (toL8 e) 84 := rfl
theorem g85_is (e : E8) : g85 e = nth (toL8 e) 85 := rfl
theorem g86_is (e : E8) : g86 e = nth (toL8 e) 86 := rfl
theorem g87_is (e : E8) : g87 e = nth (toL8 e) 87 := rfl
theorem g88_is (e : E8) : g88 e = nth (toL8 e) 88 := rfl
theorem g89_is (e : E8) : g89 e = nth (toL8 e) 89 := rfl
theorem g90_is (e : E8) : g90 e = nth (toL8 e) 90 := rfl
theorem g91_is (e : E8) : g91 e = nth (toL8 e) 91 := rfl
theorem g92_is (e : E8) : g92 e = nth (toL8 e) 92 := rfl
theorem g93_is (e : E8) : g93 e = nth (toL8 e) 93 := rfl
theorem g94_is (e : E8) : g94 e = nth (toL8 e) 94 := rfl
theorem g95_is (e : E8) : g95 e = nth (toL8 e) 95 := rfl
theorem g96_is (e : E8) : g96 e = nth (toL8 e) 96 := rfl
theorem g97_is (e : E8) : g97 e = nth (toL8 e) 97 := rfl
theorem g98_is (e : E8) : g98 e = nth (toL8 e) 98 := rfl
theorem g99_is (e : E8) : g99 e = nth (toL8 e) 99 := rfl
theorem g100_is (e : E8) : g100 e = nth (toL8 e) 100 := rfl
theorem g101_is (e : E8) : g101 e = nth (toL8 e) 101 := rfl
theorem g102_is (e : E8) : g102 e = nth (toL8 e) 102 := rfl
theorem g103_is (e : E8) : g103 e = nth (toL8 e) 103 := rfl
theorem g104_is (e : E8) : g104 e = nth (toL8 e) 104 := rfl
theorem g105_is (e : E8) : g105 e = nth (toL8 e) 105 := rfl
theorem g106_is (e : E8) : g106 e = nth (toL8 e) 106 := rfl
theorem g107_is (e : E8) : g107 e = nth (toL8 e) 107 := rfl
theorem g108_is (e : E8) : g108 e = nth (toL8 e) 108 := rfl
theorem g109_is (e : E8) : g109 e = nth (toL8 e) 109 := rfl
theorem g110_is (e : E8) : g110 e = nth (toL8 e) 110 := rfl
theorem g111_is (e : E8) : g111 e = nth (toL8 e) 111 := rfl
theorem g112_is (e : E8) : g112 e = nth (toL8 e) 112 := rfl
theorem g113_is (e : E8) : g113 e = nth (toL8 e) 113 := rfl
theorem g114_is (e : E8) : g114 e = nth (toL8 e) 114 := rfl
theorem g115_is (e : E8) : g115 e = nth (toL8 e) 115 := rfl
theorem g116_is (e : E8) : g116 e = nth (toL8 e) 116 := rfl
theorem g117_is (e : E8) : g117 e = nth (toL8 e) 117 := rfl
theorem g118_is (e : E8) : g118 e = nth (toL8 e) 118 := rfl
theorem g119_is (e : E8) : g119 e = nth (toL8 e) 119 := rfl
theorem g120_is (e : E8) : g120 e = nth (toL8 e) 120 := rfl
theorem g121_is (e : E8) : g121 e = nth (toL8 e) 121 := rfl
theorem g122_is (e : E8) : g122 e = nth (toL8 e) 122 := rfl
theorem g123_is (e : E8) : g123 e = nth (toL8 e) 123 := rfl
theorem g124_is (e : E8) : g124 e = nth (toL8 e) 124 := rfl
theorem g125_is (e : E8) : g125 e = nth (toL8 e) 125 := rfl
theorem g126_is (e : E8) : g126 e = nth (toL8 e) 126 := rfl
theorem g127_is (e : E8) : g127 e = nth (toL8 e) 127 := rfl
theorem g128_is (e : E8) : g128 e = nth (toL8 e) 128 := rfl
theorem g129_is (e : E8) : g129 e = nth (toL8 e) 129 := rfl
theorem g130_is (e : E8) : g130 e = nth (toL8 e) 130 := rfl
theorem g131_is (e : E8) : g131 e = nth (toL8 e) 131 := rfl
theorem g132_is (e : E8) : g132 e = nth (toL8 e) 132 := rfl
theorem g133_is (e : E8) : g133 e = nth (toL8 e) 133 := rfl
theorem g134_is (e : E8) : g134 e = nth (toL8 e) 134 := rfl
theorem g135_is (e : E8) : g135 e = nth (toL8 e) 135 := rfl
theorem g136_is (e : E8) : g136 e = nth (toL8 e) 136 := rfl
theorem g137_is (e : E8) : g137 e = nth (toL8 e) 137 := rfl
theorem g138_is (e : E8) : g138 e = nth (toL8 e) 138 := rfl
theorem g139_is (e : E8) : g139 e = nth (toL8 e) 139 := rfl
theorem g140_is (e : E8) : g140 e = nth (toL8 e) 140 := rfl
theorem g141_is (e : E8) : g141 e = nth (toL8 e) 141 := rfl
theorem g142_is (e : E8) : g142 e = nth (toL8 e) 142 := rfl
theorem g143_is (e : E8) : g143 e = nth (toL8 e) 143 := rfl
theorem g144_is (e : E8) : g144 e = nth (toL8 e) 144 := rfl
theorem g145_is (e : E8) : g145 e = nth (toL8 e) 145 := rfl
theorem g146_is (e : E8) : g146 e = nth (toL8 e) 146 := rfl
theorem g147_is (e : E8) : g147 e = nth (toL8 e) 147 := rfl
theorem g148_is (e : E8) : g148 e = nth (toL8 e) 148 := rfl
theorem g149_is (e : E8) : g149 e = nth (toL8 e) 149 := rfl
theorem g150_is (e : E8) : g150 e = nth (toL8 e) 150 := rfl
theorem g151_is (e : E8) : g151 e = nth (toL8 e) 151 := rfl
theorem g152_is (e : E8) : g152 e = nth (toL8 e) 152 := rfl
theorem g153_is (e : E8) : g153 e = nth (toL8 e) 153 := rfl
theorem g154_is (e : E8) : g154 e = nth (toL8 e) 154 := rfl
theorem g155_is (e : E8) : g155 e = nth (toL8 e) 155 := rfl
theorem g156_is (e : E8) : g156 e = nth (toL8 e) 156 := rfl
theorem g157_is (e : E8) : g157 e = nth (toL8 e) 157 := rfl
theorem g158_is (e : E8) : g158 e = nth (toL8 e) 158 := rfl
theorem g159_is (e : E8) : g159 e = nth (toL8 e) 159 := rfl
theorem g160_is (e : E8) : g160 e = nth (toL8 e) 160 := rfl
theorem g161_is (e : E8) : g161 e = nth (toL8 e) 161 := rfl
theorem g162_is (e : E8) : g162 e = nth (toL8 e) 162 := rfl
theorem g163_is (e : E8) : g163 e = nth (toL8 e) 163 := rfl
theorem g164_is (e : E8) : g164 e = nth (toL8 e) 164 := rfl
theorem g165_is (e : E8) : g165 e = nth (toL8 e) 165 := rfl
theorem g166_is (e : E8) : g166 e = nth (toL8 e) 166 := rfl
theorem g167_is (e : E8) : g167 e = nth (toL8 e) 167 := rfl
theorem g168_is (e : E8) : g168 e = nth (toL8 e) 168 := rfl
theorem g169_is (e : E8) : g169 e = nth (toL8 e) 169 := rfl
theorem g170_is (e : E8) : g170 e = nth (toL8 e) 170 := rfl
theorem g171_is (e : E8) : g171 e = nth (toL8 e) 171 := rfl
theorem g172_is (e : E8) : g172 e = nth (toL8 e) 172 := rfl
theorem g173_is (e : E8) : g173 e = nth (toL8 e) 173 := rfl
theorem g174_is (e : E8) : g174 e = nth (toL8 e) 174 := rfl
theorem g175_is (e : E8) : g175 e = nth (toL8 e) 175 := rfl
theorem g176_is (e : E8) : g176 e = nth (toL8 e) 176 := rfl
theorem g177_is (e : E8) : g177 e = nth (toL8 e) 177 := rfl
theorem g178_is (e : E8) : g178 e = nth (toL8 e) 178 := rfl
theorem g179_is (e : E8) : g179 e = nth (toL8 e) 179 := rfl
theorem g180_is (e : E8) : g180 e = nth (toL8 e) 180 := rfl
theorem g181_is (e : E8) : g181 e = nth (toL8 e) 181 := rfl
theorem g182_is (e : E8) : g182 e = nth (toL8 e) 182 := rfl
theorem g183_is (e : E8) : g183 e = nth (toL8 e) 183 := rfl
theorem g184_is (e : E8) : g184 e = nth (toL8 e) 184 := rfl
theorem g185_is (e : E8) : g185 e = nth (toL8 e) 185 := rfl
theorem g186_is (e : E8) : g186 e = nth (toL8 e) 186 := rfl
theorem g187_is (e : E8) : g187 e = nth (toL8 e) 187 := rfl
theorem g188_is (e : E8) : g188 e = nth (toL8 e) 188 := rfl
theorem g189_is (e : E8) : g189 e = nth (toL8 e) 189 := rfl
theorem g190_is (e : E8) : g190 e = nth (toL8 e) 190 := rfl
theorem g191_is (e : E8) : g191 e = nth (toL8 e) 191 := rfl
theorem g192_is (e : E8) : g192 e = nth (toL8 e) 192 := rfl
theorem g193_is (e : E8) : g193 e = nth (toL8 e) 193 := rfl
theorem g194_is (e : E8) : g194 e = nth (toL8 e) 194 := rfl
theorem g195_is (e : E8) : g195 e = nth (toL8 e) 195 := rfl
theorem g196_is (e : E8) : g196 e = nth (toL8 e) 196 := rfl
theorem g197_is (e : E8) : g197 e = nth (toL8 e) 197 := rfl
theorem g198_is (e : E8) : g198 e = nth (toL8 e) 198 := rfl
theorem g199_is (e : E8) : g199 e = nth (toL8 e) 199 := rfl
theorem g200_is (e : E8) : g200 e = nth (toL8 e) 200 := rfl
theorem g201_is (e : E8) : g201 e = nth (toL8 e) 201 := rfl
theorem g202_is (e : E8) : g202 e = nth (toL8 e) 202 := rfl
theorem g203_is (e : E8) : g203 e = nth (toL8 e) 203 := rfl
theorem g204_is (e : E8) : g204 e = nth (toL8 e) 204 := rfl
theorem g205_is (e : E8) : g205 e = nth (toL8 e) 205 := rfl
theorem g206_is (e : E8) : g206 e = nth (toL8 e) 206 := rfl
theorem g207_is (e : E8) : g207 e = nth (toL8 e) 207 := rfl
theorem g208_is (e : E8) : g208 e = nth (toL8 e) 208 := rfl
theorem g209_is (e : E8) : g209 e = nth (toL8 e) 209 := rfl
theorem g210_is (e : E8) : g210 e = nth (toL8 e) 210 := rfl
theorem g211_is (e : E8) : g211 e = nth (toL8 e) 211 := rfl
theorem g212_is (e : E8) : g212 e = nth (toL8 e) 212 := rfl
theorem g213_is (e : E8) : g213 e = nth (toL8 e) 213 := rfl
theorem g214_is (e : E8) : g214 e = nth (toL8 e) 214 := rfl
theorem g215_is (e : E8) : g215 e = nth (toL8 e) 215 := rfl
theorem g216_is (e : E8) : g216 e = nth (toL8 e) 216 := rfl
theorem g217_is (e : E8) : g217 e = nth (toL8 e) 217 := rfl
theorem g218_is (e : E8) : g218 e = nth (toL8 e) 218 := rfl
theorem g219_is (e : E8) : g219 e = nth (toL8 e) 219 := rfl
theorem g220_is (e : E8) : g220 e = nth (toL8 e) 220 := rfl
theorem g221_is (e : E8) : g221 e = nth (toL8 e) 221 := rfl
theorem g222_is (e : E8) : g222 e = nth (toL8 e) 222 := rfl
theorem g223_is (e : E8) : g223 e = nth (toL8 e) 223 := rfl
theorem g224_is (e : E8) : g224 e = nth (toL8 e) 224 := rfl
theorem g225_is (e : E8) : g225 e = nth (toL8 e) 225 := rfl
theorem g226_is (e : E8) : g226 e = nth (toL8 e) 226 := rfl
theorem g227_is (e : E8) : g227 e = nth (toL8 e) 227 := rfl
theorem g228_is (e : E8) : g228 e = nth (toL8 e) 228 := rfl
theorem g229_is (e : E8) : g229 e = nth (toL8 e) 229 := rfl
theorem g230_is (e : E8) : g230 e = nth (toL8 e) 230 := rfl
theorem g231_is (e : E8) : g231 e = nth (toL8 e) 231 := rfl
theorem g232_is (e : E8) : g232 e = nth (toL8 e) 232 := rfl
theorem g233_is (e : E8) : g233 e = nth (toL8 e) 233 := rfl
theorem g234_is (e : E8) : g234 e = nth (toL8 e) 234 := rfl
theorem g235_is (e : E8) : g235 e = nth (toL8 e) 235 := rfl
theorem g236_is (e : E8) : g236 e = nth (toL8 e) 236 := rfl
theorem g237_is (e : E8) : g237 e = nth (toL8 e) 237 := rfl
theorem g238_is (e : E8) : g238 e = nth (toL8 e) 238 := rfl
theorem g239_is (e : E8) : g239 e = nth (toL8 e) 239 := rfl
theorem g240_is (e : E8) : g240 e = nth (toL8 e) 240 := rfl
theorem g241_is (e : E8) : g241 e = nth (toL8 e) 241 := rfl
theorem g242_is (e : E8) : g242 e = nth (toL8 e) 242 := rfl
theorem g243_is (e : E8) : g243 e = nth (toL8 e) 243 := rfl
theorem g244_is (e : E8) : g244 e = nth (toL8 e) 244 := rfl
theorem g245_is (e : E8) : g245 e = nth (toL8 e) 245 := rfl
theorem g246_is (e : E8) : g246 e = nth (toL8 e) 246 := rfl
theorem g247_is (e : E8) : g247 e = nth (toL8 e) 247 := rfl
theorem g248_is (e : E8) : g248 e = nth (toL8 e) 248 := rfl
theorem g249_is (e : E8) : g249 e = nth (toL8 e) 249 := rfl
theorem g250_is (e : E8) : g250 e = nth (toL8 e) 250 := rfl
theorem g251_is (e : E8) : g251 e = nth (toL8 e) 251 := rfl
theorem g252_is (e : E8) : g252 e = nth (toL8 e) 252 := rfl
theorem g253_is (e : E8) : g253 e = nth (toL8 e) 253 := rfl
theorem g254_is (e : E8) : g254 e = nth (toL8 e) 254 := rfl
theorem g255_is (e : E8) : g255 e = nth (toL8 e) 255 := rfl
theorem s0_is (v : AV) (e : E8) : toL8 (s0 v e) = upd (toL8 e) v 0 := rfl
theorem s1_is (v : AV) (e : E8) : toL8 (s1 v e) = upd (toL8 e) v 1 := rfl
theorem s2_is (v : AV) (e : E8) : toL8 (s2 v e) = upd (toL8 e) v 2 := rfl
theorem s3_is (v : AV) (e : E8) : toL8 (s3 v e) = upd (toL8 e) v 3 := rfl
theorem s4_is (v : AV) (e : E8) : toL8 (s4 v e) = upd (toL8 e) v 4 := rfl
theorem s5_is (v : AV) (e : E8) : toL8 (s5 v e) = upd (toL8 e) v 5 := rfl
theorem s6_is (v : AV) (e : E8) : toL8 (s6 v e) = upd (toL8 e) v 6 := rfl
theorem s7_is (v : AV) (e : E8) : toL8 (s7 v e) = upd (toL8 e) v 7 := rfl
theorem s8_is (v : AV) (e : E8) : toL8 (s8 v e) = upd (toL8 e) v 8 := rfl
theorem s9_is (v : AV) (e : E8) : toL8 (s9 v e) = upd (toL8 e) v 9 := rfl
theorem s10_is (v : AV) (e : E8) : toL8 (s10 v e) = upd (toL8 e) v 10 := rfl
theorem s11_is (v : AV) (e : E8) : toL8 (s11 v e) = upd (toL8 e) v 11 := rfl
theorem s12_is (v : AV) (e : E8) : toL8 (s12 v e) = upd (toL8 e) v 12 := rfl
theorem s13_is (v : AV) (e : E8) : toL8 (s13 v e) = upd (toL8 e) v 13 := rfl
theorem s14_is (v : AV) (e : E8) : toL8 (s14 v e) = upd (toL8 e) v 14 := rfl
theorem s15_is (v : AV) (e : E8) : toL8 (s15 v e) = upd (toL8 e) v 15 := rfl
theorem s16_is (v : AV) (e : E8) : toL8 (s16 v e) = upd (toL8 e) v 16 := rfl
theorem s17_is (v : AV) (e : E8) : toL8 (s17 v e) = upd (toL8 e) v 17 := rfl
theorem s18_is (v : AV) (e : E8) : toL8 (s18 v e) = upd (toL8 e) v 18 := rfl
theorem s19_is (v : AV) (e : E8) : toL8 (s19 v e) = upd (toL8 e) v 19 := rfl
theorem s20_is (v : AV) (e : E8) : toL8 (s20 v e) = upd (toL8 e) v 20 := rfl
theorem s21_is (v : AV) (e : E8) : toL8 (s21 v e) = upd (toL8 e) v 21 := rfl
theorem s22_is (v : AV) (e : E8) : toL8 (s22 v e) = upd (toL8 e) v 22 := rfl
theorem s23_is (v : AV) (e : E8) : toL8 (s23 v e) = upd (toL8 e) v 23 := rfl
theorem s24_is (v : AV) (e : E8) : toL8 (s24 v e) = upd (toL8 e) v 24 := rfl
theorem s25_is (v : AV) (e : E8) : toL8 (s25 v e) = upd (toL8 e) v 25 := rfl
theorem s26_is (v : AV) (e : E8) : toL8 (s26 v e) = upd (toL8 e) v 26 := rfl
theorem s27_is (v : AV) (e : E8) : toL8 (s27 v e) = upd (toL8 e) v 27 := rfl
theorem s28_is (v : AV) (e : E8) : toL8 (s28 v e) = upd (toL8 e) v 28 := rfl
theorem s29_is (v : AV) (e : E8) : toL8 (s29 v e) = upd (toL8 e) v 29 := rfl
theorem s30_is (v : AV) (e : E8) : toL8 (s30 v e) = upd (toL8 e) v 30 := rfl
theorem s31_is (v : AV) (e : E8) : toL8 (s31 v e) = upd (toL8 e) v 31 := rfl
theorem s32_is (v : AV) (e : E8) : toL8 (s32 v e) = upd (toL8 e) v 32 := rfl
theorem s33_is (v : AV) (e : E8) : toL8 (s33 v e) = upd (toL8 e) v 33 := rfl
theorem s34_is (v : AV) (e : E8) : toL8 (s34 v e) = upd (toL8 e) v 34 := rfl
theorem s35_is (v : AV) (e : E8) : toL8 (s35 v e) = upd (toL8 e) v 35 := rfl
theorem s36_is (v : AV) (e : E8) : toL8 (s36 v e) = upd (toL8 e) v 36 := rfl
theorem s37_is (v : AV) (e : E8) : toL8 (s37 v e) = upd (toL8 e) v 37 := rfl
theorem s38_is (v : AV) (e : E8) : toL8 (s38 v e) = upd (toL8 e) v 38 := rfl
theorem s39_is (v : AV) (e : E8) : toL8 (s39 v e) = upd (toL8 e) v 39 := rfl
theorem s40_is (v : AV) (e : E8) : toL8 (s40 v e) = upd (toL8 e) v 40 := rfl
theorem s41_is (v : AV) (e : E8) : toL8 (s41 v e) = upd (toL8 e) v 41 := rfl
theorem s42_is (v : AV) (e : E8) : toL8 (s42 v e) = upd (toL8 e) v 42 := rfl
theorem s43_is (v : AV) (e : E8) : toL8 (s43 v e) = upd (toL8 e) v 43 := rfl
theorem s44_is (v : AV) (e : E8) : toL8 (s44 v e) = upd (toL8 e) v 44 := rfl
theorem s45_is (v : AV) (e : E8) : toL8 (s45 v e) = upd (toL8 e) v 45 := rfl
theorem s46_is (v : AV) (e : E8) : toL8 (s46 v e) = upd (toL8 e) v 46 := rfl
theorem s47_is (v : AV) (e : E8) : toL8 (s47 v e) = upd (toL8 e) v 47 := rfl
theorem s48_is (v : AV) (e : E8) : toL8 (s48 v e) = upd (toL8 e) v 48 := rfl
theorem s49_is (v : AV) (e : E8) : toL8 (s49 v e) = upd (toL8 e) v 49 := rfl
theorem s50_is (v : AV) (e : E8) : toL8 (s50 v e) = upd (toL8 e) v 50 := rfl
theorem s51_is (v : AV) (e : E8) : toL8 (s51 v e) = upd (toL8 e) v 51 := rfl
theorem s52_is (v : AV) (e : E8) : toL8 (s52 v e) = upd (toL8 e) v 52 := rfl
theorem s53_is (v : AV) (e : E8) : toL8 (s53 v e) = upd (toL8 e) v 53 := rfl
theorem s54_is (v : AV) (e : E8) : toL8 (s54 v e) = upd (toL8 e) v 54 := rfl
theorem s55_is (v : AV) (e : E8) : toL8 (s55 v e) = upd (toL8 e) v 55 := rfl
theorem s56_is (v : AV) (e : E8) : toL8 (s56 v e) = upd (toL8 e) v 56 := rfl
theorem s57_is (v : AV) (e : E8) : toL8 (s57 v e) = upd (toL8 e) v 57 := rfl
theorem s58_is (v : AV) (e : E8) : toL8 (s58 v e) = upd (toL8 e) v 58 := rfl
theorem s59_is (v : AV) (e : E8) : toL8 (s59 v e) = upd (toL8 e) v 59 := rfl
theorem s60_is (v : AV) (e : E8) : toL8 (s60 v e) = upd (toL8 e) v 60 := rfl
theorem s61_is (v : AV) (e : E8) : toL8 (s61 v e) = upd (toL8 e) v 61 := rfl
theorem s62_is (v : AV) (e : E8) : toL8 (s62 v e) = upd (toL8 e) v 62 := rfl
theorem s63_is (v : AV) (e : E8) : toL8 (s63 v e) = upd (toL8 e) v 63 := rfl
theorem s64_is (v : AV) (e : E8) : toL8 (s64 v e) = upd (toL8 e) v 64 := rfl
theorem s65_is (v : AV) (e : E8) : toL8 (s65 v e) = upd (toL8 e) v 65 := rfl
theorem s66_is (v : AV) (e : E8) : toL8 (s66 v e) = upd (toL8 e) v 66 := rfl
theorem s67_is (v : AV) (e : E8) : toL8 (s67 v e) = upd (toL8 e) v 67 := rfl
theorem s68_is (v : AV) (e : E8) : toL8 (s68 v e) = upd (toL8 e) v 68 := rfl
theorem s69_is (v : AV) (e : E8) : toL8 (s69 v e) = upd (toL8 e) v 69 := rfl
theorem s70_is (v : AV) (e : E8) : toL8 (s70 v e) = upd (toL8 e) v 70 := rfl
theorem s71_is (v : AV) (e : E8) : toL8 (s71 v e) = upd (toL8 e) v 71 := rfl
theorem s72_is (v : AV) (e : E8) : toL8 (s72 v e) = upd (toL8 e) v 72 := rfl
theorem s73_is (v : AV) (e : E8) : toL8 (s73 v e) = upd (toL8 e) v 73 := rfl
theorem s74_is (v : AV) (e : E8) : toL8 (s74 v e) = upd (toL8 e) v 74 := rfl
theorem s75_is (v : AV) (e : E8) : toL8 (s75 v e) = upd (toL8 e) v 75 := rfl
theorem s76_is (v : AV) (e : E8) : toL8 (s76 v e) = upd (toL8 e) v 76 := rfl
theorem s77_is (v : AV) (e : E8) : toL8 (s77 v e) = upd (toL8 e) v 77 := rfl
theorem s78_is (v : AV) (e : E8) : toL8 (s78 v e) = upd (toL8 e) v 78 := rfl
theorem s79_is (v : AV) (e : E8) : toL8 (s79 v e) = upd (toL8 e) v 79 := rfl
theorem s80_is (v : AV) (e : E8) : toL8 (s80 v e) = upd (toL8 e) v 80 := rfl
theorem s81_is (v : AV) (e : E8) : toL8 (s81 v e) = upd (toL8 e) v 81 := rfl
theorem s82_is (v : AV) (e : E8) : toL8 (s82 v e) = upd (toL8 e) v 82 := rfl
theorem s83_is (v : AV) (e : E8) : toL8 (s83 v e) = upd (toL8 e) v 83 := rfl
theorem s84_is (v : AV) (e : E8) : toL8 (s84 v e) = upd (toL8 e) v 84 := rfl
theorem s85_is (v : AV) (e : E8) : toL8 (s85 v e) = upd (toL8 e) v 85 := rfl
theorem s86_is (v : AV) (e : E8) : toL8 (s86 v e) = upd (toL8 e) v 86 := rfl
theorem s87_is (v : AV) (e : E8) : toL8 (s87 v e) = upd (toL8 e) v 87 := rfl
theorem s88_is (v : AV) (e : E8) : toL8 (s88 v e) = upd (toL8 e) v 88 := rfl
theorem s89_is (v : AV) (e : E8) : toL8 (s89 v e) = upd (toL8 e) v 89 := rfl
theorem s90_is (v : AV) (e : E8) : toL8 (s90 v e) = upd (toL8 e) v 90 := rfl
theorem s91_is (v : AV) (e : E8) : toL8 (s91 v e) = upd (toL8 e) v 91 := rfl
theorem s92_is (v : AV) (e : E8) : toL8 (s92 v e) = upd (toL8 e) v 92 := rfl
theorem s93_is (v : AV) (e : E8) : toL8 (s93 v e) = upd (toL8 e) v 93 := rfl
theorem s94_is (v : AV) (e : E8) : toL8 (s94 v e) = upd (toL8 e) v 94 := rfl
theorem s95_is (v : AV) (e : E8) : toL8 (s95 v e) = upd (toL8 e) v 95 := rfl
theorem s96_is (v : AV) (e : E8) : toL8 (s96 v e) = upd (toL8 e) v 96 := rfl
theorem s97_is (v : AV) (e : E8) : toL8 (s97 v e) = upd (toL8 e) v 97 := rfl
theorem s98_is (v : AV) (e : E8) : toL8 (s98 v e) = upd (toL8 e) v 98 := rfl
theorem s99_is (v : AV) (e : E8) : toL8 (s99 v e) = upd (toL8 e) v 99 := rfl
theorem s100_is (v : AV) (e : E8) : toL8 (s100 v e) = upd (toL8 e) v 100 := rfl
theorem s101_is (v : AV) (e : E8) : toL8 (s101 v e) = upd (toL8 e) v 101 := rfl
theorem s102_is (v : AV) (e : E8) : toL8 (s102 v e) = upd (toL8 e) v 102 := rfl
theorem s103_is (v : AV) (e : E8) : toL8 (s103 v e) = upd (toL8 e) v 103 := rfl
theorem s104_is (v : AV) (e : E8) : toL8 (s104 v e) = upd (toL8 e) v 104 := rfl
theorem s105_is (v : AV) (e : E8) : toL8 (s105 v e) = upd (toL8 e) v 105 := rfl
theorem s106_is (v : AV) (e : E8) : toL8 (s106 v e) = upd (toL8 e) v 106 := rfl
theorem s107_is (v : AV) (e : E8) : toL8 (s107 v e) = upd (toL8 e) v 107 := rfl
theorem s108_is (v : AV) (e : E8) : toL8 (s108 v e) = upd (toL8 e) v 108 := rfl
theorem s109_is (v : AV) (e : E8) : toL8 (s109 v e) = upd (toL8 e) v 109 := rfl
theorem s110_is (v : AV) (e : E8) : toL8 (s110 v e) = upd (toL8 e) v 110 := rfl
theorem s111_is (v : AV) (e : E8) : toL8 (s111 v e) = upd (toL8 e) v 111 := rfl
theorem s112_is (v : AV) (e : E8) : toL8 (s112 v e) = upd (toL8 e) v 112 := rfl
theorem s113_is (v : AV) (e : E8) : toL8 (s113 v e) = upd (toL8 e) v 113 := rfl
theorem s114_is (v : AV) (e : E8) : toL8 (s114 v e) = upd (toL8 e) v 114 := rfl
theorem s115_is (v : AV) (e : E8) : toL8 (s115 v e) = upd (toL8 e) v 115 := rfl
theorem s116_is (v : AV) (e : E8) : toL8 (s116 v e) = upd (toL8 e) v 116 := rfl
theorem s117_is (v : AV) (e : E8) : toL8 (s117 v e) = upd (toL8 e) v 117 := rfl
theorem s118_is (v : AV) (e : E8) : toL8 (s118 v e) = upd (toL8 e) v 118 := rfl
theorem s119_is (v : AV) (e : E8) : toL8 (s119 v e) = upd (toL8 e) v 119 := rfl
theorem s120_is (v : AV) (e : E8) : toL8 (s120 v e) = upd (toL8 e) v 120 := rfl
theorem s121_is (v : AV) (e : E8) : toL8 (s121 v e) = upd (toL8 e) v 121 := rfl
theorem s122_is (v : AV) (e : E8) : toL8 (s122 v e) = upd (toL8 e) v 122 := rfl
theorem s123_is (v : AV) (e : E8) : toL8 (s123 v e) = upd (toL8 e) v 123 := rfl
theorem s124_is (v : AV) (e : E8) : toL8 (s124 v e) = upd (toL8 e) v 124 := rfl
theorem s125_is (v : AV) (e : E8) : toL8 (s125 v e) = upd (toL8 e) v 125 := rfl
theorem s126_is (v : AV) (e : E8) : toL8 (s126 v e) = upd (toL8 e) v 126 := rfl
theorem s127_is (v : AV) (e : E8) : toL8 (s127 v e) = upd (toL8 e) v 127 := rfl
theorem s128_is (v : AV) (e : E8) : toL8 (s128 v e) = upd (toL8 e) v 128 := rfl
theorem s129_is (v : AV) (e : E8) : toL8 (s129 v e) = upd (toL8 e) v 129 := rfl
theorem s130_is (v : AV) (e : E8) : toL8 (s130 v e) = upd (toL8 e) v 130 := rfl
theorem s131_is (v : AV) (e : E8) : toL8 (s131 v e) = upd (toL8 e) v 131 := rfl
theorem s132_is (v : AV) (e : E8) : toL8 (s132 v e) = upd (toL8 e) v 132 := rfl
theorem s133_is (v : AV) (e : E8) : toL8 (s133 v e) = upd (toL8 e) v 133 := rfl
theorem s134_is (v : AV) (e : E8) : toL8 (s134 v e) = upd (toL8 e) v 134 := rfl
theorem s135_is (v : AV) (e : E8) : toL8 (s135 v e) = upd (toL8 e) v 135 := rfl
theorem s136_is (v : AV) (e : E8) : toL8 (s136 v e) = upd (toL8 e) v 136 := rfl
theorem s137_is (v : AV) (e : E8) : toL8 (s137 v e) = upd (toL8 e) v 137 := rfl
theorem s138_is (v : AV) (e : E8) : toL8 (s138 v e) = upd (toL8 e) v 138 := rfl
theorem s139_is (v : AV) (e : E8) : toL8 (s139 v e) = upd (toL8 e) v 139 := rfl
theorem s140_is (v : AV) (e : E8) : toL8 (s140 v e) = upd (toL8 e) v 140 := rfl
theorem s141_is (v : AV) (e : E8) : toL8 (s141 v e) = upd (toL8 e) v 141 := rfl
theorem s142_is (v : AV) (e : E8) : toL8 (s142 v e) = upd (toL8 e) v 142 := rfl
theorem s143_is (v : AV) (e : E8) : toL8 (s143 v e) = upd (toL8 e) v 143 := rfl
theorem s144_is (v : AV) (e : E8) : toL8 (s144 v e) = upd (toL8 e) v 144 := rfl
theorem s145_is (v : AV) (e : E8) : toL8 (s145 v e) = upd (toL8 e) v 145 := rfl
theorem s146_is (v : AV) (e : E8) : toL8 (s146 v e) = upd (toL8 e) v 146 := rfl
theorem s147_is (v : AV) (e : E8) : toL8 (s147 v e) = upd (toL8 e) v 147 := rfl
theorem s148_is (v : AV) (e : E8) : toL8 (s148 v e) = upd (toL8 e) v 148 := rfl
theorem s149_is (v : AV) (e : E8) : toL8 (s149 v e) = upd (toL8 e) v 149 := rfl
theorem s150_is (v : AV) (e : E8) : toL8 (s150 v e) = upd (toL8 e) v 150 := rfl
theorem s151_is (v : AV) (e : E8) : toL8 (s151 v e) = upd (toL8 e) v 151 := rfl
theorem s152_is (v : AV) (e : E8) : toL8 (s152 v e) = upd (toL8 e) v 152 := rfl
theorem s153_is (v : AV) (e : E8) : toL8 (s153 v e) = upd (toL8 e) v 153 := rfl
theorem s154_is (v : AV) (e : E8) : toL8 (s154 v e) = upd (toL8 e) v 154 := rfl
theorem s155_is (v : AV) (e : E8) : toL8 (s155 v e) = upd (toL8 e) v 155 := rfl
theorem s156_is (v : AV) (e : E8) : toL8 (s156 v e) = upd (toL8 e) v 156 := rfl
theorem s157_is (v : AV) (e : E8) : toL8 (s157 v e) = upd (toL8 e) v 157 := rfl
theorem s158_is (v : AV) (e : E8) : toL8 (s158 v e) = upd (toL8 e) v 158 := rfl
theorem s159_is (v : AV) (e : E8) : toL8 (s159 v e) = upd (toL8 e) v 159 := rfl
theorem s160_is (v : AV) (e : E8) : toL8 (s160 v e) = upd (toL8 e) v 160 := rfl
theorem s161_is (v : AV) (e : E8) : toL8 (s161 v e) = upd (toL8 e) v 161 := rfl
theorem s162_is (v : AV) (e : E8) : toL8 (s162 v e) = upd (toL8 e) v 162 := rfl
theorem s163_is (v : AV) (e : E8) : toL8 (s163 v e) = upd (toL8 e) v 163 := rfl
theorem s164_is (v : AV) (e : E8) : toL8 (s164 v e) = upd (toL8 e) v 164 := rfl
theorem s165_is (v : AV) (e : E8) : toL8 (s165 v e) = upd (toL8 e) v 165 := rfl
theorem s166_is (v : AV) (e : E8) : toL8 (s166 v e) = upd (toL8 e) v 166 := rfl
theorem s167_is (v : AV) (e : E8) : toL8 (s167 v e) = upd (toL8 e) v 167 := rfl
theorem s168_is (v : AV) (e : E8) : toL8 (s168 v e) = upd (toL8 e) v 168 := rfl
theorem s169_is (v : AV) (e : E8) : toL8 (s169 v e) = upd (toL8 e) v 169 := rfl
theorem s170_is (v : AV) (e : E8) : toL8 (s170 v e) = upd (toL8 e) v 170 := rfl
theorem s171_is (v : AV) (e : E8) : toL8 (s171 v e) = upd (toL8 e) v 171 := rfl
theorem s172_is (v : AV) (e : E8) : toL8 (s172 v e) = upd (toL8 e) v 172 := rfl
theorem s173_is (v : AV) (e : E8) : toL8 (s173 v e) = upd (toL8 e) v 173 := rfl
theorem s174_is (v : AV) (e : E8) : toL8 (s174 v e) = upd (toL8 e) v 174 := rfl
theorem s175_is (v : AV) (e : E8) : toL8 (s175 v e) = upd (toL8 e) v 175 := rfl
theorem s176_is (v : AV) (e : E8) : toL8 (s176 v e) = upd (toL8 e) v 176 := rfl
theorem s177_is (v : AV) (e : E8) : toL8 (s177 v e) = upd (toL8 e) v 177 := rfl
theorem s178_is (v : AV) (e : E8) : toL8 (s178 v e) = upd (toL8 e) v 178 := rfl
theorem s179_is (v : AV) (e : E8) : toL8 (s179 v e) = upd (toL8 e) v 179 := rfl
theorem s180_is (v : AV) (e : E8) : toL8 (s180 v e) = upd (toL8 e) v 180 := rfl
theorem s181_is (v : AV) (e : E8) : toL8 (s181 v e) = upd (toL8 e) v 181 := rfl
theorem s182_is (v : AV) (e : E8) : toL8 (s182 v e) = upd (toL8 e) v 182 := rfl
theorem s183_is (v : AV) (e : E8) : toL8 (s183 v e) = upd (toL8 e) v 183 := rfl
theorem s184_is (v : AV) (e : E8) : toL8 (s184 v e) = upd (toL8 e) v 184 := rfl
theorem s185_is (v : AV) (e : E8) : toL8 (s185 v e) = upd (toL8 e) v 185 := rfl
theorem s186_is (v : AV) (e : E8) : toL8 (s186 v e) = upd (toL8 e) v 186 := rfl
theorem s187_is (v : AV) (e : E8) : toL8 (s187 v e) = upd (toL8 e) v 187 := rfl
theorem s188_is (v : AV) (e : E8) : toL8 (s188 v e) = upd (toL8 e) v 188 := rfl
theorem s189_is (v : AV) (e : E8) : toL8 (s189 v e) = upd (toL8 e) v 189 := rfl
theorem s190_is (v : AV) (e : E8) : toL8 (s190 v e) = upd (toL8 e) v 190 := rfl
theorem s191_is (v : AV) (e : E8) : toL8 (s191 v e) = upd (toL8 e) v 191 := rfl
theorem s192_is (v : AV) (e : E8) : toL8 (s192 v e) = upd (toL8 e) v 192 := rfl
theorem s193_is (v : AV) (e : E8) : toL8 (s193 v e) = upd (toL8 e) v 193 := rfl
theorem s194_is (v : AV) (e : E8) : toL8 (s194 v e) = upd (toL8 e) v 194 := rfl
theorem s195_is (v : AV) (e : E8) : toL8 (s195 v e) = upd (toL8 e) v 195 := rfl
theorem s196_is (v : AV) (e : E8) : toL8 (s196 v e) = upd (toL8 e) v 196 := rfl
theorem s197_is (v : AV) (e : E8) : toL8 (s197 v e) = upd (toL8 e) v 197 := rfl
theorem s198_is (v : AV) (e : E8) : toL8 (s198 v e) = upd (toL8 e) v 198 := rfl
theorem s199_is (v : AV) (e : E8) : toL8 (s199 v e) = upd (toL8 e) v 199 := rfl
theorem s200_is (v : AV) (e : E8) : toL8 (s200 v e) = upd (toL8 e) v 200 := rfl
theorem s201_is (v : AV) (e : E8) : toL8 (s201 v e) = upd (toL8 e) v 201 := rfl
theorem s202_is (v : AV) (e : E8) : toL8 (s202 v e) = upd (toL8 e) v 202 := rfl
theorem s203_is (v : AV) (e : E8) : toL8 (s203 v e) = upd (toL8 e) v 203 := rfl
theorem s204_is (v : AV) (e : E8) : toL8 (s204 v e) = upd (toL8 e) v 204 := rfl
theorem s205_is (v : AV) (e : E8) : toL8 (s205 v e) = upd (toL8 e) v 205 := rfl
theorem s206_is (v : AV) (e : E8) : toL8 (s206 v e) = upd (toL8 e) v 206 := rfl
theorem s207_is (v : AV) (e : E8) : toL8 (s207 v e) = upd (toL8 e) v 207 := rfl
theorem s208_is (v : AV) (e : E8) : toL8 (s208 v e) = upd (toL8 e) v 208 := rfl
theorem s209_is (v : AV) (e : E8) : toL8 (s209 v e) = upd (toL8 e) v 209 := rfl
theorem s210_is (v : AV) (e : E8) : toL8 (s210 v e) = upd (toL8 e) v 210 := rfl
theorem s211_is (v : AV) (e : E8) : toL8 (s211 v e) = upd (toL8 e) v 211 := rfl
theorem s212_is (v : AV) (e : E8) : toL8 (s212 v e) = upd (toL8 e) v 212 := rfl
theorem s213_is (v : AV) (e : E8) : toL8 (s213 v e) = upd (toL8 e) v 213 := rfl
theorem s214_is (v : AV) (e : E8) : toL8 (s214 v e) = upd (toL8 e) v 214 := rfl
theorem s215_is (v : AV) (e : E8) : toL8 (s215 v e) = upd (toL8 e) v 215 := rfl
theorem s216_is (v : AV) (e : E8) : toL8 (s216 v e) = upd (toL8 e) v 216 := rfl
theorem s217_is (v : AV) (e : E8) : toL8 (s217 v e) = upd (toL8 e) v 217 := rfl
theorem s218_is (v : AV) (e : E8) : toL8 (s218 v e) = upd (toL8 e) v 218 := rfl
theorem s219_is (v : AV) (e : E8) : toL8 (s219 v e) = upd (toL8 e) v 219 := rfl
theorem s220_is (v : AV) (e : E8) : toL8 (s220 v e) = upd (toL8 e) v 220 := rfl
theorem s221_is (v : AV) (e : E8) : toL8 (s221 v e) = upd (toL8 e) v 221 := rfl
theorem s222_is (v : AV) (e : E8) : toL8 (s222 v e) = upd (toL8 e) v 222 := rfl
theorem s223_is (v : AV) (e : E8) : toL8 (s223 v e) = upd (toL8 e) v 223 := rfl
theorem s224_is (v : AV) (e : E8) : toL8 (s224 v e) = upd (toL8 e) v 224 := rfl
theorem s225_is (v : AV) (e : E8) : toL8 (s225 v e) = upd (toL8 e) v 225 := rfl
theorem s226_is (v : AV) (e : E8) : toL8 (s226 v e) = upd (toL8 e) v 226 := rfl
theorem s227_is (v : AV) (e : E8) : toL8 (s227 v e) = upd (toL8 e) v 227 := rfl
theorem s228_is (v : AV) (e : E8) : toL8 (s228 v e) = upd (toL8 e) v 228 := rfl
theorem s229_is (v : AV) (e : E8) : toL8 (s229 v e) = upd (toL8 e) v 229 := rfl
theorem s230_is (v : AV) (e : E8) : toL8 (s230 v e) = upd (toL8 e) v 230 := rfl
theorem s231_is (v : AV) (e : E8) : toL8 (s231 v e) = upd (toL8 e) v 231 := rfl
theorem s232_is (v : AV) (e : E8) : toL8 (s232 v e) = upd (toL8 e) v 232 := rfl
theorem s233_is (v : AV) (e : E8) : toL8 (s233 v e) = upd (toL8 e) v 233 := rfl
theorem s234_is (v : AV) (e : E8) : toL8 (s234 v e) = upd (toL8 e) v 234 := rfl
theorem s235_is (v : AV) (e : E8) : toL8 (s235 v e) = upd (toL8 e) v 235 := rfl
theorem s236_is (v : AV) (e : E8) : toL8 (s236 v e) = upd (toL8 e) v 236 := rfl
theorem s237_is (v : AV) (e : E8) : toL8 (s237 v e) = upd (toL8 e) v 237 := rfl
theorem s238_is (v : AV) (e : E8) : toL8 (s238 v e) = upd (toL8 e) v 238 := rfl
theorem s239_is (v : AV) (e : E8) : toL8 (s239 v e) = upd (toL8 e) v 239 := rfl
theorem s240_is (v : AV) (e : E8) : toL8 (s240 v e) = upd (toL8 e) v 240 := rfl
theorem s241_is (v : AV) (e : E8) : toL8 (s241 v e) = upd (toL8 e) v 241 := rfl
theorem s242_is (v : AV) (e : E8) : toL8 (s242 v e) = upd (toL8 e) v 242 := rfl
theorem s243_is (v : AV) (e : E8) : toL8 (s243 v e) = upd (toL8 e) v 243 := rfl
theorem s244_is (v : AV) (e : E8) : toL8 (s244 v e) = upd (toL8 e) v 244 := rfl
theorem s245_is (v : AV) (e : E8) : toL8 (s245 v e) = upd (toL8 e) v 245 := rfl
theorem s246_is (v : AV) (e : E8) : toL8 (s246 v e) = upd (toL8 e) v 246 := rfl
theorem s247_is (v : AV) (e : E8) : toL8 (s247 v e) = upd (toL8 e) v 247 := rfl
theorem s248_is (v : AV) (e : E8) : toL8 (s248 v e) = upd (toL8 e) v 248 := rfl
theorem s249_is (v : AV) (e : E8) : toL8 (s249 v e) = upd (toL8 e) v 249 := rfl
theorem s250_is (v : AV) (e : E8) : toL8 (s250 v e) = upd (toL8 e) v 250 := rfl
theorem s251_is (v : AV) (e : E8) : toL8 (s251 v e) = upd (toL8 e) v 251 := rfl
theorem s252_is (v : AV) (e : E8) : toL8 (s252 v e) = upd (toL8 e) v 252 := rfl
theorem s253_is (v : AV) (e : E8) : toL8 (s253 v e) = upd (toL8 e) v 253 := rfl
theorem s254_is (v : AV) (e : E8) : toL8 (s254 v e) = upd (toL8 e) v 254 := rfl
theorem s255_is (v : AV) (e : E8) : toL8 (s255 v e) = upd (toL8 e) v 255 := rfl
end Go.Proofs.Ytadohhhjpbhhoaa.EvA
