/- A quick way to reckon with the evaluator: temporaries by short names. Printed by a program of this work. -/
import Derived.Test.YtadohhhjpbhhoaaEvfE
namespace Go.Proofs.Ytadohhhjpbhhoaa.EvA
theorem t0 {n : Nat} (h : Nat.blt 0 n = true) : RX n (xT 0) g0 := rT g0_is h
theorem t1 {n : Nat} (h : Nat.blt 1 n = true) : RX n (xT 1) g1 := rT g1_is h
theorem t2 {n : Nat} (h : Nat.blt 2 n = true) : RX n (xT 2) g2 := rT g2_is h
theorem t3 {n : Nat} (h : Nat.blt 3 n = true) : RX n (xT 3) g3 := rT g3_is h
theorem t4 {n : Nat} (h : Nat.blt 4 n = true) : RX n (xT 4) g4 := rT g4_is h
theorem t5 {n : Nat} (h : Nat.blt 5 n = true) : RX n (xT 5) g5 := rT g5_is h
theorem t6 {n : Nat} (h : Nat.blt 6 n = true) : RX n (xT 6) g6 := rT g6_is h
theorem t7 {n : Nat} (h : Nat.blt 7 n = true) : RX n (xT 7) g7 := rT g7_is h
theorem t8 {n : Nat} (h : Nat.blt 8 n = true) : RX n (xT 8) g8 := rT g8_is h
theorem t9 {n : Nat} (h : Nat.blt 9 n = true) : RX n (xT 9) g9 := rT g9_is h
theorem t10 {n : Nat} (h : Nat.blt 10 n = true) : RX n (xT 10) g10 := rT g10_is h
theorem t11 {n : Nat} (h : Nat.blt 11 n = true) : RX n (xT 11) g11 := rT g11_is h
theorem t12 {n : Nat} (h : Nat.blt 12 n = true) : RX n (xT 12) g12 := rT g12_is h
theorem t13 {n : Nat} (h : Nat.blt 13 n = true) : RX n (xT 13) g13 := rT g13_is h
theorem t14 {n : Nat} (h : Nat.blt 14 n = true) : RX n (xT 14) g14 := rT g14_is h
theorem t15 {n : Nat} (h : Nat.blt 15 n = true) : RX n (xT 15) g15 := rT g15_is h
theorem t16 {n : Nat} (h : Nat.blt 16 n = true) : RX n (xT 16) g16 := rT g16_is h
theorem t17 {n : Nat} (h : Nat.blt 17 n = true) : RX n (xT 17) g17 := rT g17_is h
theorem t18 {n : Nat} (h : Nat.blt 18 n = true) : RX n (xT 18) g18 := rT g18_is h
theorem t19 {n : Nat} (h : Nat.blt 19 n = true) : RX n (xT 19) g19 := rT g19_is h
theorem t20 {n : Nat} (h : Nat.blt 20 n = true) : RX n (xT 20) g20 := rT g20_is h
theorem t21 {n : Nat} (h : Nat.blt 21 n = true) : RX n (xT 21) g21 := rT g21_is h
theorem t22 {n : Nat} (h : Nat.blt 22 n = true) : RX n (xT 22) g22 := rT g22_is h
theorem t23 {n : Nat} (h : Nat.blt 23 n = true) : RX n (xT 23) g23 := rT g23_is h
theorem t24 {n : Nat} (h : Nat.blt 24 n = true) : RX n (xT 24) g24 := rT g24_is h
theorem t25 {n : Nat} (h : Nat.blt 25 n = true) : RX n (xT 25) g25 := rT g25_is h
theorem t26 {n : Nat} (h : Nat.blt 26 n = true) : RX n (xT 26) g26 := rT g26_is h
theorem t27 {n : Nat} (h : Nat.blt 27 n = true) : RX n (xT 27) g27 := rT g27_is h
theorem t28 {n : Nat} (h : Nat.blt 28 n = true) : RX n (xT 28) g28 := rT g28_is h
theorem t29 {n : Nat} (h : Nat.blt 29 n = true) : RX n (xT 29) g29 := rT g29_is h
theorem t30 {n : Nat} (h : Nat.blt 30 n = true) : RX n (xT 30) g30 := rT g30_is h
theorem t31 {n : Nat} (h : Nat.blt 31 n = true) : RX n (xT 31) g31 := rT g31_is h
theorem t32 {n : Nat} (h : Nat.blt 32 n = true) : RX n (xT 32) g32 := rT g32_is h
theorem t33 {n : Nat} (h : Nat.blt 33 n = true) : RX n (xT 33) g33 := rT g33_is h
theorem t34 {n : Nat} (h : Nat.blt 34 n = true) : RX n (xT 34) g34 := rT g34_is h
theorem t35 {n : Nat} (h : Nat.blt 35 n = true) : RX n (xT 35) g35 := rT g35_is h
theorem t36 {n : Nat} (h : Nat.blt 36 n = true) : RX n (xT 36) g36 := rT g36_is h
theorem t37 {n : Nat} (h : Nat.blt 37 n = true) : RX n (xT 37) g37 := rT g37_is h
theorem t38 {n : Nat} (h : Nat.blt 38 n = true) : RX n (xT 38) g38 := rT g38_is h
theorem t39 {n : Nat} (h : Nat.blt 39 n = true) : RX n (xT 39) g39 := rT g39_is h
theorem t40 {n : Nat} (h : Nat.blt 40 n = true) : RX n (xT 40) g40 := rT g40_is h
theorem t41 {n : Nat} (h : Nat.blt 41 n = true) : RX n (xT 41) g41 := rT g41_is h
theorem t42 {n : Nat} (h : Nat.blt 42 n = true) : RX n (xT 42) g42 := rT g42_is h
theorem t43 {n : Nat} (h : Nat.blt 43 n = true) : RX n (xT 43) g43 := rT g43_is h
theorem t44 {n : Nat} (h : Nat.blt 44 n = true) : RX n (xT 44) g44 := rT g44_is h
theorem t45 {n : Nat} (h : Nat.blt 45 n = true) : RX n (xT 45) g45 := rT g45_is h
theorem t46 {n : Nat} (h : Nat.blt 46 n = true) : RX n (xT 46) g46 := rT g46_is h
theorem t47 {n : Nat} (h : Nat.blt 47 n = true) : RX n (xT 47) g47 := rT g47_is h
theorem t48 {n : Nat} (h : Nat.blt 48 n = true) : RX n (xT 48) g48 := rT g48_is h
theorem t49 {n : Nat} (h : Nat.blt 49 n = true) : RX n (xT 49) g49 := rT g49_is h
theorem t50 {n : Nat} (h : Nat.blt 50 n = true) : RX n (xT 50) g50 := rT g50_is h
theorem t51 {n : Nat} (h : Nat.blt 51 n = true) : RX n (xT 51) g51 := rT g51_is h
theorem t52 {n : Nat} (h : Nat.blt 52 n = true) : RX n (xT 52) g52 := rT g52_is h
theorem t53 {n : Nat} (h : Nat.blt 53 n = true) : RX n (xT 53) g53 := rT g53_is h
theorem t54 {n : Nat} (h : Nat.blt 54 n = true) : RX n (xT 54) g54 := rT g54_is h
theorem t55 {n : Nat} (h : Nat.blt 55 n = true) : RX n (xT 55) g55 := rT g55_is h
theorem t56 {n : Nat} (h : Nat.blt 56 n = true) : RX n (xT 56) g56 := rT g56_is h
theorem t57 {n : Nat} (h : Nat.blt 57 n = true) : RX n (xT 57) g57 := rT g57_is h
theorem t58 {n : Nat} (h : Nat.blt 58 n = true) : RX n (xT 58) g58 := rT g58_is h
theorem t59 {n : Nat} (h : Nat.blt 59 n = true) : RX n (xT 59) g59 := rT g59_is h
theorem t60 {n : Nat} (h : Nat.blt 60 n = true) : RX n (xT 60) g60 := rT g60_is h
theorem t61 {n : Nat} (h : Nat.blt 61 n = true) : RX n (xT 61) g61 := rT g61_is h
theorem t62 {n : Nat} (h : Nat.blt 62 n = true) : RX n (xT 62) g62 := rT g62_is h
theorem t63 {n : Nat} (h : Nat.blt 63 n = true) : RX n (xT 63) g63 := rT g63_is h
theorem t64 {n : Nat} (h : Nat.blt 64 n = true) : RX n (xT 64) g64 := rT g64_is h
theorem t65 {n : Nat} (h : Nat.blt 65 n = true) : RX n (xT 65) g65 := rT g65_is h
theorem t66 {n : Nat} (h : Nat.blt 66 n = true) : RX n (xT 66) g66 := rT g66_is h
theorem t67 {n : Nat} (h : Nat.blt 67 n = true) : RX n (xT 67) g67 := rT g67_is h
theorem t68 {n : Nat} (h : Nat.blt 68 n = true) : RX n (xT 68) g68 := rT g68_is h
theorem t69 {n : Nat} (h : Nat.blt 69 n = true) : RX n (xT 69) g69 := rT g69_is h
theorem t70 {n : Nat} (h : Nat.blt 70 n = true) : RX n (xT 70) g70 := rT g70_is h
theorem t71 {n : Nat} (h : Nat.blt 71 n = true) : RX n (xT 71) g71 := rT g71_is h
theorem t72 {n : Nat} (h : Nat.blt 72 n = true) : RX n (xT 72) g72 := rT g72_is h
theorem t73 {n : Nat} (h : Nat.blt 73 n = true) : RX n (xT 73) g73 := rT g73_is h
theorem t74 {n : Nat} (h : Nat.blt 74 n = true) : RX n (xT 74) g74 := rT g74_is h
theorem t75 {n : Nat} (h : Nat.blt 75 n = true) : RX n (xT 75) g75 := rT g75_is h
theorem t76 {n : Nat} (h : Nat.blt 76 n = true) : RX n (xT 76) g76 := rT g76_is h
theorem t77 {n : Nat} (h : Nat.blt 77 n = true) : RX n (xT 77) g77 := rT g77_is h
theorem t78 {n : Nat} (h : Nat.blt 78 n = true) : RX n (xT 78) g78 := rT g78_is h
theorem t79 {n : Nat} (h : Nat.blt 79 n = true) : RX n (xT 79) g79 := rT g79_is h
theorem t80 {n : Nat} (h : Nat.blt 80 n = true) : RX n (xT 80) g80 := rT g80_is h
theorem t81 {n : Nat} (h : Nat.blt 81 n = true) : RX n (xT 81) g81 := rT g81_is h
theorem t82 {n : Nat} (h : Nat.blt 82 n = true) : RX n (xT 82) g82 := rT g82_is h
theorem t83 {n : Nat} (h : Nat.blt 83 n = true) : RX n (xT 83) g83 := rT g83_is h
theorem t84 {n : Nat} (h : Nat.blt 84 n = true) : RX n (xT 84) g84 := rT g84_is h
theorem t85 {n : Nat} (h : Nat.blt 85 n = true) : RX n (xT 85) g85 := rT g85_is h
theorem t86 {n : Nat} (h : Nat.blt 86 n = true) : RX n (xT 86) g86 := rT g86_is h
theorem t87 {n : Nat} (h : Nat.blt 87 n = true) : RX n (xT 87) g87 := rT g87_is h
theorem t88 {n : Nat} (h : Nat.blt 88 n = true) : RX n (xT 88) g88 := rT g88_is h
theorem t89 {n : Nat} (h : Nat.blt 89 n = true) : RX n (xT 89) g89 := rT g89_is h
theorem t90 {n : Nat} (h : Nat.blt 90 n = true) : RX n (xT 90) g90 := rT g90_is h
theorem t91 {n : Nat} (h : Nat.blt 91 n = true) : RX n (xT 91) g91 := rT g91_is h
theorem t92 {n : Nat} (h : Nat.blt 92 n = true) : RX n (xT 92) g92 := rT g92_is h
theorem t93 {n : Nat} (h : Nat.blt 93 n = true) : RX n (xT 93) g93 := rT g93_is h
theorem t94 {n : Nat} (h : Nat.blt 94 n = true) : RX n (xT 94) g94 := rT g94_is h
theorem t95 {n : Nat} (h : Nat.blt 95 n = true) : RX n (xT 95) g95 := rT g95_is h
theorem t96 {n : Nat} (h : Nat.blt 96 n = true) : RX n (xT 96) g96 := rT g96_is h
theorem t97 {n : Nat} (h : Nat.blt 97 n = true) : RX n (xT 97) g97 := rT g97_is h
theorem t98 {n : Nat} (h : Nat.blt 98 n = true) : RX n (xT 98) g98 := rT g98_is h
theorem t99 {n : Nat} (h : Nat.blt 99 n = true) : RX n (xT 99) g99 := rT g99_is h
theorem t100 {n : Nat} (h : Nat.blt 100 n = true) : RX n (xT 100) g100 := rT g100_is h
theorem t101 {n : Nat} (h : Nat.blt 101 n = true) : RX n (xT 101) g101 := rT g101_is h
theorem t102 {n : Nat} (h : Nat.blt 102 n = true) : RX n (xT 102) g102 := rT g102_is h
theorem t103 {n : Nat} (h : Nat.blt 103 n = true) : RX n (xT 103) g103 := rT g103_is h
theorem t104 {n : Nat} (h : Nat.blt 104 n = true) : RX n (xT 104) g104 := rT g104_is h
theorem t105 {n : Nat} (h : Nat.blt 105 n = true) : RX n (xT 105) g105 := rT g105_is h
theorem t106 {n : Nat} (h : Nat.blt 106 n = true) : RX n (xT 106) g106 := rT g106_is h
theorem t107 {n : Nat} (h : Nat.blt 107 n = true) : RX n (xT 107) g107 := rT g107_is h
theorem t108 {n : Nat} (h : Nat.blt 108 n = true) : RX n (xT 108) g108 := rT g108_is h
theorem t109 {n : Nat} (h : Nat.blt 109 n = true) : RX n (xT 109) g109 := rT g109_is h
theorem t110 {n : Nat} (h : Nat.blt 110 n = true) : RX n (xT 110) g110 := rT g110_is h
theorem t111 {n : Nat} (h : Nat.blt 111 n = true) : RX n (xT 111) g111 := rT g111_is h
theorem t112 {n : Nat} (h : Nat.blt 112 n = true) : RX n (xT 112) g112 := rT g112_is h
theorem t113 {n : Nat} (h : Nat.blt 113 n = true) : RX n (xT 113) g113 := rT g113_is h
theorem t114 {n : Nat} (h : Nat.blt 114 n = true) : RX n (xT 114) g114 := rT g114_is h
theorem t115 {n : Nat} (h : Nat.blt 115 n = true) : RX n (xT 115) g115 := rT g115_is h
theorem t116 {n : Nat} (h : Nat.blt 116 n = true) : RX n (xT 116) g116 := rT g116_is h
theorem t117 {n : Nat} (h : Nat.blt 117 n = true) : RX n (xT 117) g117 := rT g117_is h
theorem t118 {n : Nat} (h : Nat.blt 118 n = true) : RX n (xT 118) g118 := rT g118_is h
theorem t119 {n : Nat} (h : Nat.blt 119 n = true) : RX n (xT 119) g119 := rT g119_is h
theorem t120 {n : Nat} (h : Nat.blt 120 n = true) : RX n (xT 120) g120 := rT g120_is h
theorem t121 {n : Nat} (h : Nat.blt 121 n = true) : RX n (xT 121) g121 := rT g121_is h
theorem t122 {n : Nat} (h : Nat.blt 122 n = true) : RX n (xT 122) g122 := rT g122_is h
theorem t123 {n : Nat} (h : Nat.blt 123 n = true) : RX n (xT 123) g123 := rT g123_is h
theorem t124 {n : Nat} (h : Nat.blt 124 n = true) : RX n (xT 124) g124 := rT g124_is h
theorem t125 {n : Nat} (h : Nat.blt 125 n = true) : RX n (xT 125) g125 := rT g125_is h
theorem t126 {n : Nat} (h : Nat.blt 126 n = true) : RX n (xT 126) g126 := rT g126_is h
theorem t127 {n : Nat} (h : Nat.blt 127 n = true) : RX n (xT 127) g127 := rT g127_is h
theorem t128 {n : Nat} (h : Nat.blt 128 n = true) : RX n (xT 128) g128 := rT g128_is h
theorem t129 {n : Nat} (h : Nat.blt 129 n = true) : RX n (xT 129) g129 := rT g129_is h
theorem t130 {n : Nat} (h : Nat.blt 130 n = true) : RX n (xT 130) g130 := rT g130_is h
theorem t131 {n : Nat} (h : Nat.blt 131 n = true) : RX n (xT 131) g131 := rT g131_is h
theorem t132 {n : Nat} (h : Nat.blt 132 n = true) : RX n (xT 132) g132 := rT g132_is h
theorem t133 {n : Nat} (h : Nat.blt 133 n = true) : RX n (xT 133) g133 := rT g133_is h
theorem t134 {n : Nat} (h : Nat.blt 134 n = true) : RX n (xT 134) g134 := rT g134_is h
theorem t135 {n : Nat} (h : Nat.blt 135 n = true) : RX n (xT 135) g135 := rT g135_is h
theorem t136 {n : Nat} (h : Nat.blt 136 n = true) : RX n (xT 136) g136 := rT g136_is h
theorem t137 {n : Nat} (h : Nat.blt 137 n = true) : RX n (xT 137) g137 := rT g137_is h
theorem t138 {n : Nat} (h : Nat.blt 138 n = true) : RX n (xT 138) g138 := rT g138_is h
theorem t139 {n : Nat} (h : Nat.blt 139 n = true) : RX n (xT 139) g139 := rT g139_is h
theorem t140 {n : Nat} (h : Nat.blt 140 n = true) : RX n (xT 140) g140 := rT g140_is h
theorem t141 {n : Nat} (h : Nat.blt 141 n = true) : RX n (xT 141) g141 := rT g141_is h
theorem t142 {n : Nat} (h : Nat.blt 142 n = true) : RX n (xT 142) g142 := rT g142_is h
theorem t143 {n : Nat} (h : Nat.blt 143 n = true) : RX n (xT 143) g143 := rT g143_is h
theorem t144 {n : Nat} (h : Nat.blt 144 n = true) : RX n (xT 144) g144 := rT g144_is h
theorem t145 {n : Nat} (h : Nat.blt 145 n = true) : RX n (xT 145) g145 := rT g145_is h
theorem t146 {n : Nat} (h : Nat.blt 146 n = true) : RX n (xT 146) g146 := rT g146_is h
theorem t147 {n : Nat} (h : Nat.blt 147 n = true) : RX n (xT 147) g147 := rT g147_is h
theorem t148 {n : Nat} (h : Nat.blt 148 n = true) : RX n (xT 148) g148 := rT g148_is h
theorem t149 {n : Nat} (h : Nat.blt 149 n = true) : RX n (xT 149) g149 := rT g149_is h
theorem t150 {n : Nat} (h : Nat.blt 150 n = true) : RX n (xT 150) g150 := rT g150_is h
theorem t151 {n : Nat} (h : Nat.blt 151 n = true) : RX n (xT 151) g151 := rT g151_is h
theorem t152 {n : Nat} (h : Nat.blt 152 n = true) : RX n (xT 152) g152 := rT g152_is h
theorem t153 {n : Nat} (h : Nat.blt 153 n = true) : RX n (xT 153) g153 := rT g153_is h
theorem t154 {n : Nat} (h : Nat.blt 154 n = true) : RX n (xT 154) g154 := rT g154_is h
theorem t155 {n : Nat} (h : Nat.blt 155 n = true) : RX n (xT 155) g155 := rT g155_is h
theorem t156 {n : Nat} (h : Nat.blt 156 n = true) : RX n (xT 156) g156 := rT g156_is h
theorem t157 {n : Nat} (h : Nat.blt 157 n = true) : RX n (xT 157) g157 := rT g157_is h
theorem t158 {n : Nat} (h : Nat.blt 158 n = true) : RX n (xT 158) g158 := rT g158_is h
theorem t159 {n : Nat} (h : Nat.blt 159 n = true) : RX n (xT 159) g159 := rT g159_is h
theorem t160 {n : Nat} (h : Nat.blt 160 n = true) : RX n (xT 160) g160 := rT g160_is h
theorem t161 {n : Nat} (h : Nat.blt 161 n = true) : RX n (xT 161) g161 := rT g161_is h
theorem t162 {n : Nat} (h : Nat.blt 162 n = true) : RX n (xT 162) g162 := rT g162_is h
theorem t163 {n : Nat} (h : Nat.blt 163 n = true) : RX n (xT 163) g163 := rT g163_is h
theorem t164 {n : Nat} (h : Nat.blt 164 n = true) : RX n (xT 164) g164 := rT g164_is h
theorem t165 {n : Nat} (h : Nat.blt 165 n = true) : RX n (xT 165) g165 := rT g165_is h
theorem t166 {n : Nat} (h : Nat.blt 166 n = true) : RX n (xT 166) g166 := rT g166_is h
theorem t167 {n : Nat} (h : Nat.blt 167 n = true) : RX n (xT 167) g167 := rT g167_is h
theorem t168 {n : Nat} (h : Nat.blt 168 n = true) : RX n (xT 168) g168 := rT g168_is h
theorem t169 {n : Nat} (h : Nat.blt 169 n = true) : RX n (xT 169) g169 := rT g169_is h
theorem t170 {n : Nat} (h : Nat.blt 170 n = true) : RX n (xT 170) g170 := rT g170_is h
theorem t171 {n : Nat} (h : Nat.blt 171 n = true) : RX n (xT 171) g171 := rT g171_is h
theorem t172 {n : Nat} (h : Nat.blt 172 n = true) : RX n (xT 172) g172 := rT g172_is h
theorem t173 {n : Nat} (h : Nat.blt 173 n = true) : RX n (xT 173) g173 := rT g173_is h
theorem t174 {n : Nat} (h : Nat.blt 174 n = true) : RX n (xT 174) g174 := rT g174_is h
theorem t175 {n : Nat} (h : Nat.blt 175 n = true) : RX n (xT 175) g175 := rT g175_is h
theorem t176 {n : Nat} (h : Nat.blt 176 n = true) : RX n (xT 176) g176 := rT g176_is h
theorem t177 {n : Nat} (h : Nat.blt 177 n = true) : RX n (xT 177) g177 := rT g177_is h
theorem t178 {n : Nat} (h : Nat.blt 178 n = true) : RX n (xT 178) g178 := rT g178_is h
theorem t179 {n : Nat} (h : Nat.blt 179 n = true) : RX n (xT 179) g179 := rT g179_is h
theorem t180 {n : Nat} (h : Nat.blt 180 n = true) : RX n (xT 180) g180 := rT g180_is h
theorem t181 {n : Nat} (h : Nat.blt 181 n = true) : RX n (xT 181) g181 := rT g181_is h
theorem t182 {n : Nat} (h : Nat.blt 182 n = true) : RX n (xT 182) g182 := rT g182_is h
theorem t183 {n : Nat} (h : Nat.blt 183 n = true) : RX n (xT 183) g183 := rT g183_is h
theorem t184 {n : Nat} (h : Nat.blt 184 n = true) : RX n (xT 184) g184 := rT g184_is h
theorem t185 {n : Nat} (h : Nat.blt 185 n = true) : RX n (xT 185) g185 := rT g185_is h
theorem t186 {n : Nat} (h : Nat.blt 186 n = true) : RX n (xT 186) g186 := rT g186_is h
theorem t187 {n : Nat} (h : Nat.blt 187 n = true) : RX n (xT 187) g187 := rT g187_is h
theorem t188 {n : Nat} (h : Nat.blt 188 n = true) : RX n (xT 188) g188 := rT g188_is h
theorem t189 {n : Nat} (h : Nat.blt 189 n = true) : RX n (xT 189) g189 := rT g189_is h
theorem t190 {n : Nat} (h : Nat.blt 190 n = true) : RX n (xT 190) g190 := rT g190_is h
theorem t191 {n : Nat} (h : Nat.blt 191 n = true) : RX n (xT 191) g191 := rT g191_is h
theorem t192 {n : Nat} (h : Nat.blt 192 n = true) : RX n (xT 192) g192 := rT g192_is h
theorem t193 {n : Nat} (h : Nat.blt 193 n = true) : RX n (xT 193) g193 := rT g193_is h
theorem t194 {n : Nat} (h : Nat.blt 194 n = true) : RX n (xT 194) g194 := rT g194_is h
theorem t195 {n : Nat} (h : Nat.blt 195 n = true) : RX n (xT 195) g195 := rT g195_is h
theorem t196 {n : Nat} (h : Nat.blt 196 n = true) : RX n (xT 196) g196 := rT g196_is h
theorem t197 {n : Nat} (h : Nat.blt 197 n = true) : RX n (xT 197) g197 := rT g197_is h
theorem t198 {n : Nat} (h : Nat.blt 198 n = true) : RX n (xT 198) g198 := rT g198_is h
theorem t199 {n : Nat} (h : Nat.blt 199 n = true) : RX n (xT 199) g199 := rT g199_is h
theorem t200 {n : Nat} (h : Nat.blt 200 n = true) : RX n (xT 200) g200 := rT g200_is h
theorem t201 {n : Nat} (h : Nat.blt 201 n = true) : RX n (xT 201) g201 := rT g201_is h
theorem t202 {n : Nat} (h : Nat.blt 202 n = true) : RX n (xT 202) g202 := rT g202_is h
theorem t203 {n : Nat} (h : Nat.blt 203 n = true) : RX n (xT 203) g203 := rT g203_is h
theorem t204 {n : Nat} (h : Nat.blt 204 n = true) : RX n (xT 204) g204 := rT g204_is h
theorem t205 {n : Nat} (h : Nat.blt 205 n = true) : RX n (xT 205) g205 := rT g205_is h
theorem t206 {n : Nat} (h : Nat.blt 206 n = true) : RX n (xT 206) g206 := rT g206_is h
theorem t207 {n : Nat} (h : Nat.blt 207 n = true) : RX n (xT 207) g207 := rT g207_is h
theorem t208 {n : Nat} (h : Nat.blt 208 n = true) : RX n (xT 208) g208 := rT g208_is h
theorem t209 {n : Nat} (h : Nat.blt 209 n = true) : RX n (xT 209) g209 := rT g209_is h
theorem t210 {n : Nat} (h : Nat.blt 210 n = true) : RX n (xT 210) g210 := rT g210_is h
theorem t211 {n : Nat} (h : Nat.blt 211 n = true) : RX n (xT 211) g211 := rT g211_is h
theorem t212 {n : Nat} (h : Nat.blt 212 n = true) : RX n (xT 212) g212 := rT g212_is h
theorem t213 {n : Nat} (h : Nat.blt 213 n = true) : RX n (xT 213) g213 := rT g213_is h
theorem t214 {n : Nat} (h : Nat.blt 214 n = true) : RX n (xT 214) g214 := rT g214_is h
theorem t215 {n : Nat} (h : Nat.blt 215 n = true) : RX n (xT 215) g215 := rT g215_is h
theorem t216 {n : Nat} (h : Nat.blt 216 n = true) : RX n (xT 216) g216 := rT g216_is h
theorem t217 {n : Nat} (h : Nat.blt 217 n = true) : RX n (xT 217) g217 := rT g217_is h
theorem t218 {n : Nat} (h : Nat.blt 218 n = true) : RX n (xT 218) g218 := rT g218_is h
theorem t219 {n : Nat} (h : Nat.blt 219 n = true) : RX n (xT 219) g219 := rT g219_is h
theorem t220 {n : Nat} (h : Nat.blt 220 n = true) : RX n (xT 220) g220 := rT g220_is h
theorem t221 {n : Nat} (h : Nat.blt 221 n = true) : RX n (xT 221) g221 := rT g221_is h
theorem t222 {n : Nat} (h : Nat.blt 222 n = true) : RX n (xT 222) g222 := rT g222_is h
theorem t223 {n : Nat} (h : Nat.blt 223 n = true) : RX n (xT 223) g223 := rT g223_is h
theorem t224 {n : Nat} (h : Nat.blt 224 n = true) : RX n (xT 224) g224 := rT g224_is h
theorem t225 {n : Nat} (h : Nat.blt 225 n = true) : RX n (xT 225) g225 := rT g225_is h
theorem t226 {n : Nat} (h : Nat.blt 226 n = true) : RX n (xT 226) g226 := rT g226_is h
theorem t227 {n : Nat} (h : Nat.blt 227 n = true) : RX n (xT 227) g227 := rT g227_is h
theorem t228 {n : Nat} (h : Nat.blt 228 n = true) : RX n (xT 228) g228 := rT g228_is h
theorem t229 {n : Nat} (h : Nat.blt 229 n = true) : RX n (xT 229) g229 := rT g229_is h
theorem t230 {n : Nat} (h : Nat.blt 230 n = true) : RX n (xT 230) g230 := rT g230_is h
theorem t231 {n : Nat} (h : Nat.blt 231 n = true) : RX n (xT 231) g231 := rT g231_is h
theorem t232 {n : Nat} (h : Nat.blt 232 n = true) : RX n (xT 232) g232 := rT g232_is h
theorem t233 {n : Nat} (h : Nat.blt 233 n = true) : RX n (xT 233) g233 := rT g233_is h
theorem t234 {n : Nat} (h : Nat.blt 234 n = true) : RX n (xT 234) g234 := rT g234_is h
theorem t235 {n : Nat} (h : Nat.blt 235 n = true) : RX n (xT 235) g235 := rT g235_is h
theorem t236 {n : Nat} (h : Nat.blt 236 n = true) : RX n (xT 236) g236 := rT g236_is h
theorem t237 {n : Nat} (h : Nat.blt 237 n = true) : RX n (xT 237) g237 := rT g237_is h
theorem t238 {n : Nat} (h : Nat.blt 238 n = true) : RX n (xT 238) g238 := rT g238_is h
theorem t239 {n : Nat} (h : Nat.blt 239 n = true) : RX n (xT 239) g239 := rT g239_is h
theorem t240 {n : Nat} (h : Nat.blt 240 n = true) : RX n (xT 240) g240 := rT g240_is h
theorem t241 {n : Nat} (h : Nat.blt 241 n = true) : RX n (xT 241) g241 := rT g241_is h
theorem t242 {n : Nat} (h : Nat.blt 242 n = true) : RX n (xT 242) g242 := rT g242_is h
theorem t243 {n : Nat} (h : Nat.blt 243 n = true) : RX n (xT 243) g243 := rT g243_is h
theorem t244 {n : Nat} (h : Nat.blt 244 n = true) : RX n (xT 244) g244 := rT g244_is h
theorem t245 {n : Nat} (h : Nat.blt 245 n = true) : RX n (xT 245) g245 := rT g245_is h
theorem t246 {n : Nat} (h : Nat.blt 246 n = true) : RX n (xT 246) g246 := rT g246_is h
theorem t247 {n : Nat} (h : Nat.blt 247 n = true) : RX n (xT 247) g247 := rT g247_is h
theorem t248 {n : Nat} (h : Nat.blt 248 n = true) : RX n (xT 248) g248 := rT g248_is h
theorem t249 {n : Nat} (h : Nat.blt 249 n = true) : RX n (xT 249) g249 := rT g249_is h
theorem t250 {n : Nat} (h : Nat.blt 250 n = true) : RX n (xT 250) g250 := rT g250_is h
theorem t251 {n : Nat} (h : Nat.blt 251 n = true) : RX n (xT 251) g251 := rT g251_is h
theorem t252 {n : Nat} (h : Nat.blt 252 n = true) : RX n (xT 252) g252 := rT g252_is h
theorem t253 {n : Nat} (h : Nat.blt 253 n = true) : RX n (xT 253) g253 := rT g253_is h
theorem t254 {n : Nat} (h : Nat.blt 254 n = true) : RX n (xT 254) g254 := rT g254_is h
theorem t255 {n : Nat} (h : Nat.blt 255 n = true) : RX n (xT 255) g255 := rT g255_is h
theorem d0 {n : Nat} : RS n 0 s0 := rS s0_is
theorem d1 {n : Nat} : RS n 1 s1 := rS s1_is
theorem d2 {n : Nat} : RS n 2 s2 := rS s2_is
theorem d3 {n : Nat} : RS n 3 s3 := rS s3_is
theorem d4 {n : Nat} : RS n 4 s4 := rS s4_is
theorem d5 {n : Nat} : RS n 5 s5 := rS s5_is
theorem d6 {n : Nat} : RS n 6 s6 := rS s6_is
theorem d7 {n : Nat} : RS n 7 s7 := rS s7_is
theorem d8 {n : Nat} : RS n 8 s8 := rS s8_is
theorem d9 {n : Nat} : RS n 9 s9 := rS s9_is
theorem d10 {n : Nat} : RS n 10 s10 := rS s10_is
theorem d11 {n : Nat} : RS n 11 s11 := rS s11_is
theorem d12 {n : Nat} : RS n 12 s12 := rS s12_is
theorem d13 {n : Nat} : RS n 13 s13 := rS s13_is
theorem d14 {n : Nat} : RS n 14 s14 := rS s14_is
theorem d15 {n : Nat} : RS n 15 s15 := rS s15_is
theorem d16 {n : Nat} : RS n 16 s16 := rS s16_is
theorem d17 {n : Nat} : RS n 17 s17 := rS s17_is
theorem d18 {n : Nat} : RS n 18 s18 := rS s18_is
theorem d19 {n : Nat} : RS n 19 s19 := rS s19_is
theorem d20 {n : Nat} : RS n 20 s20 := rS s20_is
theorem d21 {n : Nat} : RS n 21 s21 := rS s21_is
theorem d22 {n : Nat} : RS n 22 s22 := rS s22_is
theorem d23 {n : Nat} : RS n 23 s23 := rS s23_is
theorem d24 {n : Nat} : RS n 24 s24 := rS s24_is
theorem d25 {n : Nat} : RS n 25 s25 := rS s25_is
theorem d26 {n : Nat} : RS n 26 s26 := rS s26_is
theorem d27 {n : Nat} : RS n 27 s27 := rS s27_is
theorem d28 {n : Nat} : RS n 28 s28 := rS s28_is
theorem d29 {n : Nat} : RS n 29 s29 := rS s29_is
theorem d30 {n : Nat} : RS n 30 s30 := rS s30_is
theorem d31 {n : Nat} : RS n 31 s31 := rS s31_is
theorem d32 {n : Nat} : RS n 32 s32 := rS s32_is
theorem d33 {n : Nat} : RS n 33 s33 := rS s33_is
theorem d34 {n : Nat} : RS n 34 s34 := rS s34_is
theorem d35 {n : Nat} : RS n 35 s35 := rS s35_is
theorem d36 {n : Nat} : RS n 36 s36 := rS s36_is
theorem d37 {n : Nat} : RS n 37 s37 := rS s37_is
theorem d38 {n : Nat} : RS n 38 s38 := rS s38_is
theorem d39 {n : Nat} : RS n 39 s39 := rS s39_is
theorem d40 {n : Nat} : RS n 40 s40 := rS s40_is
theorem d41 {n : Nat} : RS n 41 s41 := rS s41_is
theorem d42 {n : Nat} : RS n 42 s42 := rS s42_is
theorem d43 {n : Nat} : RS n 43 s43 := rS s43_is
theorem d44 {n : Nat} : RS n 44 s44 := rS s44_is
theorem d45 {n : Nat} : RS n 45 s45 := rS s45_is
theorem d46 {n : Nat} : RS n 46 s46 := rS s46_is
theorem d47 {n : Nat} : RS n 47 s47 := rS s47_is
theorem d48 {n : Nat} : RS n 48 s48 := rS s48_is
theorem d49 {n : Nat} : RS n 49 s49 := rS s49_is
theorem d50 {n : Nat} : RS n 50 s50 := rS s50_is
theorem d51 {n : Nat} : RS n 51 s51 := rS s51_is
theorem d52 {n : Nat} : RS n 52 s52 := rS s52_is
theorem d53 {n : Nat} : RS n 53 s53 := rS s53_is
theorem d54 {n : Nat} : RS n 54 s54 := rS s54_is
theorem d55 {n : Nat} : RS n 55 s55 := rS s55_is
theorem d56 {n : Nat} : RS n 56 s56 := rS s56_is
theorem d57 {n : Nat} : RS n 57 s57 := rS s57_is
theorem d58 {n : Nat} : RS n 58 s58 := rS s58_is
theorem d59 {n : Nat} : RS n 59 s59 := rS s59_is
theorem d60 {n : Nat} : RS n 60 s60 := rS s60_is
theorem d61 {n : Nat} : RS n 61 s61 := rS s61_is
theorem d62 {n : Nat} : RS n 62 s62 := rS s62_is
theorem d63 {n : Nat} : RS n 63 s63 := rS s63_is
theorem d64 {n : Nat} : RS n 64 s64 := rS s64_is
theorem d65 {n : Nat} : RS n 65 s65 := rS s65_is
theorem d66 {n : Nat} : RS n 66 s66 := rS s66_is
theorem d67 {n : Nat} : RS n 67 s67 := rS s67_is
theorem d68 {n : Nat} : RS n 68 s68 := rS s68_is
theorem d69 {n : Nat} : RS n 69 s69 := rS s69_is
theorem d70 {n : Nat} : RS n 70 s70 := rS s70_is
theorem d71 {n : Nat} : RS n 71 s71 := rS s71_is
theorem d72 {n : Nat} : RS n 72 s72 := rS s72_is
theorem d73 {n : Nat} : RS n 73 s73 := rS s73_is
theorem d74 {n : Nat} : RS n 74 s74 := rS s74_is
theorem d75 {n : Nat} : RS n 75 s75 := rS s75_is
theorem d76 {n : Nat} : RS n 76 s76 := rS s76_is
theorem d77 {n : Nat} : RS n 77 s77 := rS s77_is
theorem d78 {n : Nat} : RS n 78 s78 := rS s78_is
theorem d79 {n : Nat} : RS n 79 s79 := rS s79_is
theorem d80 {n : Nat} : RS n 80 s80 := rS s80_is
theorem d81 {n : Nat} : RS n 81 s81 := rS s81_is
theorem d82 {n : Nat} : RS n 82 s82 := rS s82_is
theorem d83 {n : Nat} : RS n 83 s83 := rS s83_is
theorem d84 {n : Nat} : RS n 84 s84 := rS s84_is
theorem d85 {n : Nat} : RS n 85 s85 := rS s85_is
theorem d86 {n : Nat} : RS n 86 s86 := rS s86_is
theorem d87 {n : Nat} : RS n 87 s87 := rS s87_is
theorem d88 {n : Nat} : RS n 88 s88 := rS s88_is
theorem d89 {n : Nat} : RS n 89 s89 := rS s89_is
theorem d90 {n : Nat} : RS n 90 s90 := rS s90_is
theorem d91 {n : Nat} : RS n 91 s91 := rS s91_is
theorem d92 {n : Nat} : RS n 92 s92 := rS s92_is
theorem d93 {n : Nat} : RS n 93 s93 := rS s93_is
theorem d94 {n : Nat} : RS n 94 s94 := rS s94_is
theorem d95 {n : Nat} : RS n 95 s95 := rS s95_is
theorem d96 {n : Nat} : RS n 96 s96 := rS s96_is
theorem d97 {n : Nat} : RS n 97 s97 := rS s97_is
theorem d98 {n : Nat} : RS n 98 s98 := rS s98_is
theorem d99 {n : Nat} : RS n 99 s99 := rS s99_is
theorem d100 {n : Nat} : RS n 100 s100 := rS s100_is
theorem d101 {n : Nat} : RS n 101 s101 := rS s101_is
theorem d102 {n : Nat} : RS n 102 s102 := rS s102_is
theorem d103 {n : Nat} : RS n 103 s103 := rS s103_is
theorem d104 {n : Nat} : RS n 104 s104 := rS s104_is
theorem d105 {n : Nat} : RS n 105 s105 := rS s105_is
theorem d106 {n : Nat} : RS n 106 s106 := rS s106_is
theorem d107 {n : Nat} : RS n 107 s107 := rS s107_is
theorem d108 {n : Nat} : RS n 108 s108 := rS s108_is
theorem d109 {n : Nat} : RS n 109 s109 := rS s109_is
theorem d110 {n : Nat} : RS n 110 s110 := rS s110_is
theorem d111 {n : Nat} : RS n 111 s111 := rS s111_is
theorem d112 {n : Nat} : RS n 112 s112 := rS s112_is
theorem d113 {n : Nat} : RS n 113 s113 := rS s113_is
theorem d114 {n : Nat} : RS n 114 s114 := rS s114_is
theorem d115 {n : Nat} : RS n 115 s115 := rS s115_is
theorem d116 {n : Nat} : RS n 116 s116 := rS s116_is
theorem d117 {n : Nat} : RS n 117 s117 := rS s117_is
theorem d118 {n : Nat} : RS n 118 s118 := rS s118_is
theorem d119 {n : Nat} : RS n 119 s119 := rS s119_is
theorem d120 {n : Nat} : RS n 120 s120 := rS s120_is
theorem d121 {n : Nat} : RS n 121 s121 := rS s121_is
theorem d122 {n : Nat} : RS n 122 s122 := rS s122_is
theorem d123 {n : Nat} : RS n 123 s123 := rS s123_is
theorem d124 {n : Nat} : RS n 124 s124 := rS s124_is
theorem d125 {n : Nat} : RS n 125 s125 := rS s125_is
theorem d126 {n : Nat} : RS n 126 s126 := rS s126_is
theorem d127 {n : Nat} : RS n 127 s127 := rS s127_is
theorem d128 {n : Nat} : RS n 128 s128 := rS s128_is
theorem d129 {n : Nat} : RS n 129 s129 := rS s129_is
theorem d130 {n : Nat} : RS n 130 s130 := rS s130_is
theorem d131 {n : Nat} : RS n 131 s131 := rS s131_is
theorem d132 {n : Nat} : RS n 132 s132 := rS s132_is
theorem d133 {n : Nat} : RS n 133 s133 := rS s133_is
theorem d134 {n : Nat} : RS n 134 s134 := rS s134_is
theorem d135 {n : Nat} : RS n 135 s135 := rS s135_is
theorem d136 {n : Nat} : RS n 136 s136 := rS s136_is
theorem d137 {n : Nat} : RS n 137 s137 := rS s137_is
theorem d138 {n : Nat} : RS n 138 s138 := rS s138_is
theorem d139 {n : Nat} : RS n 139 s139 := rS s139_is
theorem d140 {n : Nat} : RS n 140 s140 := rS s140_is
theorem d141 {n : Nat} : RS n 141 s141 := rS s141_is
theorem d142 {n : Nat} : RS n 142 s142 := rS s142_is
theorem d143 {n : Nat} : RS n 143 s143 := rS s143_is
theorem d144 {n : Nat} : RS n 144 s144 := rS s144_is
theorem d145 {n : Nat} : RS n 145 s145 := rS s145_is
theorem d146 {n : Nat} : RS n 146 s146 := rS s146_is
theorem d147 {n : Nat} : RS n 147 s147 := rS s147_is
theorem d148 {n : Nat} : RS n 148 s148 := rS s148_is
theorem d149 {n : Nat} : RS n 149 s149 := rS s149_is
theorem d150 {n : Nat} : RS n 150 s150 := rS s150_is
theorem d151 {n : Nat} : RS n 151 s151 := rS s151_is
theorem d152 {n : Nat} : RS n 152 s152 := rS s152_is
theorem d153 {n : Nat} : RS n 153 s153 := rS s153_is
theorem d154 {n : Nat} : RS n 154 s154 := rS s154_is
theorem d155 {n : Nat} : RS n 155 s155 := rS s155_is
theorem d156 {n : Nat} : RS n 156 s156 := rS s156_is
theorem d157 {n : Nat} : RS n 157 s157 := rS s157_is
theorem d158 {n : Nat} : RS n 158 s158 := rS s158_is
theorem d159 {n : Nat} : RS n 159 s159 := rS s159_is
theorem d160 {n : Nat} : RS n 160 s160 := rS s160_is
theorem d161 {n : Nat} : RS n 161 s161 := rS s161_is
theorem d162 {n : Nat} : RS n 162 s162 := rS s162_is
theorem d163 {n : Nat} : RS n 163 s163 := rS s163_is
theorem d164 {n : Nat} : RS n 164 s164 := rS s164_is
theorem d165 {n : Nat} : RS n 165 s165 := rS s165_is
theorem d166 {n : Nat} : RS n 166 s166 := rS s166_is
theorem d167 {n : Nat} : RS n 167 s167 := rS s167_is
theorem d168 {n : Nat} : RS n 168 s168 := rS s168_is
theorem d169 {n : Nat} : RS n 169 s169 := rS s169_is
theorem d170 {n : Nat} : RS n 170 s170 := rS s170_is
theorem d171 {n : Nat} : RS n 171 s171 := rS s171_is
theorem d172 {n : Nat} : RS n 172 s172 := rS s172_is
theorem d173 {n : Nat} : RS n 173 s173 := rS s173_is
theorem d174 {n : Nat} : RS n 174 s174 := rS s174_is
theorem d175 {n : Nat} : RS n 175 s175 := rS s175_is
theorem d176 {n : Nat} : RS n 176 s176 := rS s176_is
theorem d177 {n : Nat} : RS n 177 s177 := rS s177_is
theorem d178 {n : Nat} : RS n 178 s178 := rS s178_is
theorem d179 {n : Nat} : RS n 179 s179 := rS s179_is
theorem d180 {n : Nat} : RS n 180 s180 := rS s180_is
theorem d181 {n : Nat} : RS n 181 s181 := rS s181_is
theorem d182 {n : Nat} : RS n 182 s182 := rS s182_is
theorem d183 {n : Nat} : RS n 183 s183 := rS s183_is
theorem d184 {n : Nat} : RS n 184 s184 := rS s184_is
theorem d185 {n : Nat} : RS n 185 s185 := rS s185_is
theorem d186 {n : Nat} : RS n 186 s186 := rS s186_is
theorem d187 {n : Nat} : RS n 187 s187 := rS s187_is
theorem d188 {n : Nat} : RS n 188 s188 := rS s188_is
theorem d189 {n : Nat} : RS n 189 s189 := rS s189_is
theorem d190 {n : Nat} : RS n 190 s190 := rS s190_is
theorem d191 {n : Nat} : RS n 191 s191 := rS s191_is
theorem d192 {n : Nat} : RS n 192 s192 := rS s192_is
theorem d193 {n : Nat} : RS n 193 s193 := rS s193_is
theorem d194 {n : Nat} : RS n 194 s194 := rS s194_is
theorem d195 {n : Nat} : RS n 195 s195 := rS s195_is
theorem d196 {n : Nat} : RS n 196 s196 := rS s196_is
theorem d197 {n : Nat} : RS n 197 s197 := rS s197_is
theorem d198 {n : Nat} : RS n 198 s198 := rS s198_is
theorem d199 {n : Nat} : RS n 199 s199 := rS s199_is
theorem d200 {n : Nat} : RS n 200 s200 := rS s200_is
theorem d201 {n : Nat} : RS n 201 s201 := rS s201_is
theorem d202 {n : Nat} : RS n 202 s202 := rS s202_is
theorem d203 {n : Nat} : RS n 203 s203 := rS s203_is
theorem d204 {n : Nat} : RS n 204 s204 := rS s204_is
theorem d205 {n : Nat} : RS n 205 s205 := rS s205_is
theorem d206 {n : Nat} : RS n 206 s206 := rS s206_is
theorem d207 {n : Nat} : RS n 207 s207 := rS s207_is
theorem d208 {n : Nat} : RS n 208 s208 := rS s208_is
theorem d209 {n : Nat} : RS n 209 s209 := rS s209_is
theorem d210 {n : Nat} : RS n 210 s210 := rS s210_is
theorem d211 {n : Nat} : RS n 211 s211 := rS s211_is
theorem d212 {n : Nat} : RS n 212 s212 := rS s212_is
theorem d213 {n : Nat} : RS n 213 s213 := rS s213_is
theorem d214 {n : Nat} : RS n 214 s214 := rS s214_is
theorem d215 {n : Nat} : RS n 215 s215 := rS s215_is
theorem d216 {n : Nat} : RS n 216 s216 := rS s216_is
theorem d217 {n : Nat} : RS n 217 s217 := rS s217_is
theorem d218 {n : Nat} : RS n 218 s218 := rS s218_is
theorem d219 {n : Nat} : RS n 219 s219 := rS s219_is
theorem d220 {n : Nat} : RS n 220 s220 := rS s220_is
theorem d221 {n : Nat} : RS n 221 s221 := rS s221_is
theorem d222 {n : Nat} : RS n 222 s222 := rS s222_is
theorem d223 {n : Nat} : RS n 223 s223 := rS s223_is
theorem d224 {n : Nat} : RS n 224 s224 := rS s224_is
theorem d225 {n : Nat} : RS n 225 s225 := rS s225_is
theorem d226 {n : Nat} : RS n 226 s226 := rS s226_is
theorem d227 {n : Nat} : RS n 227 s227 := rS s227_is
theorem d228 {n : Nat} : RS n 228 s228 := rS s228_is
theorem d229 {n : Nat} : RS n 229 s229 := rS s229_is
theorem d230 {n : Nat} : RS n 230 s230 := rS s230_is
theorem d231 {n : Nat} : RS n 231 s231 := rS s231_is
theorem d232 {n : Nat} : RS n 232 s232 := rS s232_is
theorem d233 {n : Nat} : RS n 233 s233 := rS s233_is
theorem d234 {n : Nat} : RS n 234 s234 := rS s234_is
theorem d235 {n : Nat} : RS n 235 s235 := rS s235_is
theorem d236 {n : Nat} : RS n 236 s236 := rS s236_is
theorem d237 {n : Nat} : RS n 237 s237 := rS s237_is
theorem d238 {n : Nat} : RS n 238 s238 := rS s238_is
theorem d239 {n : Nat} : RS n 239 s239 := rS s239_is
theorem d240 {n : Nat} : RS n 240 s240 := rS s240_is
theorem d241 {n : Nat} : RS n 241 s241 := rS s241_is
theorem d242 {n : Nat} : RS n 242 s242 := rS s242_is
theorem d243 {n : Nat} : RS n 243 s243 := rS s243_is
theorem d244 {n : Nat} : RS n 244 s244 := rS s244_is
theorem d245 {n : Nat} : RS n 245 s245 := rS s245_is
theorem d246 {n : Nat} : RS n 246 s246 := rS s246_is
theorem d247 {n : Nat} : RS n 247 s247 := rS s247_is
theorem d248 {n : Nat} : RS n 248 s248 := rS s248_is
theorem d249 {n : Nat} : RS n 249 s249 := rS s249_is
theorem d250 {n : Nat} : RS n 250 s250 := rS s250_is
theorem d251 {n : Nat} : RS n 251 s251 := rS s251_is
theorem d252 {n : Nat} : RS n 252 s252 := rS s252_is
theorem d253 {n : Nat} : RS n 253 s253 := rS s253_is
theorem d254 {n : Nat} : RS n 254 s254 := rS s254_is
theorem d255 {n : Nat} : RS n 255 s255 := rS s255_is
theorem mkRF {n : Nat} {k : KC} {r : Tmps → AH → Option AV} {f : FC} {v : FV} (hn : Nat.ble n 256 = true) (hb : RC n k f) (hv : RV n r v) : RF ⟨n, k, r⟩ ⟨n, f, v⟩ := ⟨rfl, hn, hb, hv⟩
end Go.Proofs.Ytadohhhjpbhhoaa.EvA
