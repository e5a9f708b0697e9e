/- The kernel goes through sha.Sum of the three bytes abc on the abstract machine. Conditions: the table sha.k lies at its name. -/
import Derived.Test.YtmpdpcamgkndnaaGreatDoorAmKrun
import Derived.Test.YtmpdpcamgkndnaaGreatDoorProg
import Derived.KernelRfl
set_option linter.unusedSimpArgs false
set_option linter.constructorNameAsVariable false
set_option linter.unusedVariables false
set_option maxRecDepth 1000000
namespace Go.Proofs.YtmpdpcamgkndnaaGreatDoor
open Go Go.Am
def shaK : List AV := [1116352408,1899447441,3049323471,3921009573,961987163,1508970993,2453635748,2870763221,3624381080,310598401,607225278,1426881987,1925078388,2162078206,2614888103,3248222580,3835390401,4022224774,264347078,604807628,770255983,1249150122,1555081692,1996064986,2554220882,2821834349,2952996808,3210313671,3336571891,3584528711,113926993,338241895,666307205,773529912,1294757372,1396182291,1695183700,1986661051,2177026350,2456956037,2730485921,2820302411,3259730800,3345764771,3516065817,3600352804,4094571909,275423344,430227734,506948616,659060556,883997877,958139571,1322822218,1537002063,1747873779,1955562222,2024104815,2227730452,2361852424,2428436474,2756734187,3204031479,3329325298].map fun n => .int .u32 n
def u8s (l : List Nat) : AV := .agg (l.map fun (n : Nat) => .int .u8 n)
def shaAbc : AV := u8s [0xba,0x78,0x16,0xbf,0x8f,0x01,0xcf,0xea,0x41,0x41,0x40,0xde,0x5d,0xae,0x22,0x23,0xb0,0x03,0x61,0xa3,0x96,0x17,0x7a,0x9c,0xb4,0x10,0xff,0x61,0xf2,0x00,0x15,0xad]
def glSha : List (Nat × List AV) := [(0, shaK)]
theorem sha_k (es : Nat → Nat) (e : Nat) : okVal shaAbc (arunFT (cFn Tryz.prog) 1000000 15 [.sl (some (3, 0)) 3 3 (some 1)] (small 3 glSha es e [97, 98, 99])) = true := by kernel_rfl
theorem sha_run (es : Nat → Nat) (e : Nat) : Rets (cFn Tryz.prog) 15 [.sl (some (3, 0)) 3 3 (some 1)] (small 3 glSha es e [97, 98, 99]) shaAbc := .of (sha_k es e)
end Go.Proofs.YtmpdpcamgkndnaaGreatDoor
