/-
  cofferref03.Turn of the client's record, in parts: all of them as contracts of a run.
-/
import Derived.Test.YtpbikmlfhipckaaGreatDoorQNR1
import Derived.Test.YtpbikmlfhipckaaGreatDoorQNTua2
import Derived.Test.YtpbikmlfhipckaaGreatDoorQNTua3
import Derived.Test.YtpbikmlfhipckaaGreatDoorQNTua4
import Derived.Test.YtpbikmlfhipckaaGreatDoorQNTua5
import Derived.Test.YtpbikmlfhipckaaGreatDoorQNTub2
import Derived.Test.YtpbikmlfhipckaaGreatDoorQNTub3
import Derived.Test.YtpbikmlfhipckaaGreatDoorQNTub4
import Derived.Test.YtpbikmlfhipckaaGreatDoorQNTub5
namespace Go.Proofs.YtpbikmlfhipckaaGreatDoor
set_option maxRecDepth 1000000
noncomputable def ntuaI : CalF := orf 363 (ckI ntua1a ntua1i ntua1n ntua1v ntua1o ntua1x) (orf 364 (ckI ntua2a ntua2i ntua2n ntua2v ntua2o ntua2x) (orf 364 (ckI ntua3a ntua3i ntua3n ntua3v ntua3o ntua3x) (orf 364 (ckI ntua4a ntua4i ntua4n ntua4v ntua4o ntua4x) (orf 364 (ckI ntua5a ntua5i ntua5n ntua5v ntua5o ntua5x) Ix))))
theorem ntuaI_ok [Orig] : FnOk Tryz.prog ntuaI := orf_ok (ck_ok envOk run_ntua1 Ix_ok) (orf_ok (ck_ok envOk run_ntua2 Ix_ok) (orf_ok (ck_ok envOk run_ntua3 Ix_ok) (orf_ok (ck_ok envOk run_ntua4 Ix_ok) (orf_ok (ck_ok envOk run_ntua5 Ix_ok) Ix_ok))))
end Go.Proofs.YtpbikmlfhipckaaGreatDoor

namespace Go.Proofs.YtpbikmlfhipckaaGreatDoor
open Go.RowKit
set_option maxRecDepth 1000000
noncomputable def tuaA : List SV := [.str [157, 124, 137, 2, 123, 38, 14, 71, 181, 243, 20, 141, 68, 134, 30, 123], .str [0, 0, 0, 0, 0, 0, 0, 0, 0, 0, 0, 0, 0, 0, 0, 0], .str [19, 0, 0, 0, 19, 0, 0, 0, 100, 255, 255, 44, 1, 0, 0, 6, 0, 57, 80, 50, 48, 48, 48, 0, 0, 0, 0, 0, 0, 0, 0, 0, 0, 0, 0, 0, 0, 0, 0, 0, 0, 0, 0, 0, 0, 0, 0, 0, 0, 0, 0, 0, 0, 0, 0, 0, 0, 0, 0, 0, 0, 0, 0, 0]]
noncomputable def tuaV : SV := .str [92, 39, 134, 47, 118, 62, 248, 174, 182, 82, 48, 115, 169, 182, 108, 112, 174, 217, 22, 185, 111, 227, 159, 9, 228, 117, 167, 218, 239, 91, 74, 246, 196, 37, 196, 172, 186, 166, 242, 189, 78, 164, 54, 202, 149, 222, 247, 79, 204, 241, 184, 180, 176, 60, 63, 120, 116, 127, 155, 157, 132, 153, 238, 52]
theorem run_tua : resIs tuaV (callE' env0 ntuaI 100000 256 tuaA .leaf 0) = true := by decide +kernel
end Go.Proofs.YtpbikmlfhipckaaGreatDoor

namespace Go.Proofs.YtpbikmlfhipckaaGreatDoor
set_option maxRecDepth 1000000
noncomputable def ntubI : CalF := orf 363 (ckI ntub1a ntub1i ntub1n ntub1v ntub1o ntub1x) (orf 364 (ckI ntub2a ntub2i ntub2n ntub2v ntub2o ntub2x) (orf 364 (ckI ntub3a ntub3i ntub3n ntub3v ntub3o ntub3x) (orf 364 (ckI ntub4a ntub4i ntub4n ntub4v ntub4o ntub4x) (orf 364 (ckI ntub5a ntub5i ntub5n ntub5v ntub5o ntub5x) Ix))))
theorem ntubI_ok [Orig] : FnOk Tryz.prog ntubI := orf_ok (ck_ok envOk run_ntub1 Ix_ok) (orf_ok (ck_ok envOk run_ntub2 Ix_ok) (orf_ok (ck_ok envOk run_ntub3 Ix_ok) (orf_ok (ck_ok envOk run_ntub4 Ix_ok) (orf_ok (ck_ok envOk run_ntub5 Ix_ok) Ix_ok))))
end Go.Proofs.YtpbikmlfhipckaaGreatDoor

namespace Go.Proofs.YtpbikmlfhipckaaGreatDoor
open Go.RowKit
set_option maxRecDepth 1000000
noncomputable def tubA : List SV := [.str [227, 213, 50, 99, 218, 126, 54, 119, 215, 254, 198, 251, 101, 71, 183, 246], .str [0, 0, 0, 0, 0, 0, 0, 0, 0, 0, 0, 0, 0, 0, 0, 0], .str [244, 170, 244, 208, 194, 131, 78, 103, 155, 69, 45, 126, 233, 15, 235, 255, 31, 81, 111, 161, 139, 81, 64, 174, 147, 109, 135, 3, 43, 171, 229, 158, 8, 101, 50, 76, 168, 240, 163, 11, 45, 78, 149, 93, 116, 100, 110, 30, 13, 12, 110, 246, 208, 14, 18, 156, 33, 223, 201, 232, 39, 175, 33, 100]]
noncomputable def tubV : SV := .str [19, 0, 0, 0, 19, 0, 0, 0, 101, 255, 255, 44, 1, 0, 0, 6, 0, 57, 80, 50, 48, 48, 48, 0, 0, 0, 0, 0, 0, 0, 0, 0, 0, 0, 0, 0, 0, 0, 0, 0, 0, 0, 0, 0, 0, 0, 0, 0, 0, 0, 0, 0, 0, 0, 0, 0, 0, 0, 0, 0, 0, 0, 0, 0]
theorem run_tub : resIs tubV (callE' env0 ntubI 100000 256 tubA .leaf 0) = true := by decide +kernel
end Go.Proofs.YtpbikmlfhipckaaGreatDoor
